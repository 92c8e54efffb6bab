/- Graphs: the edges that go both ways, told by hand for the frame; by this project. -/
import Derived.Test.YtaemcnabccgnbaaFspa
import Derived.MapKept
import GoSem.Instr.MapEntry
namespace Go.Proofs.Ytaemcnabccgnbaa.F
open Go Go.RowKit Go.Proofs Go.Proofs.Fr
set_option linter.unusedVariables false
set_option linter.unusedSimpArgs false
-- PLAIN spf_Mutual ((Int × List (Int × Int × Int × Unit) × Unit) × Unit)
def spf_Mutual.q (a : (Int × List (Int × Int × Int × Unit) × Unit) × Unit) : Option ((Int × List (Int × Int × Int × Unit) × Unit) × Unit) := if a.1.2.1.length ≤ 100000 then some ((a.1.1, a.1.2.1.filter fun x => a.1.2.1.any fun y => decide (y.1 = x.2.1 ∧ y.2.1 = x.1), ()), ()) else none
-- END
/-- A key of two numbers. -/
abbrev pk (a b : Int) : Value := .agg #[.int .i64 a, .int .i64 b]
theorem pk_inj {a b c d : Int} (h : pk a b = pk c d) : a = c ∧ b = d := by
  simp only [Value.agg.injEq] at h
  have h' : [Value.int .i64 a, .int .i64 b] = [.int .i64 c, .int .i64 d] := congrArg Array.toList h
  simp only [List.cons.injEq, Value.int.injEq, true_and, and_true] at h'
  exact h'
theorem mut.eqP (w : World) (a b c d : Int) : (Op.equal 60 (pk a b) (pk c d)).run Go.Proofs.Try.prog w = .ok (decide (a = c) && (decide (b = d) && true)) w := by
  unfold Op.equal Op.maxDepth
  have h := run_eqT (P := Go.Proofs.Try.prog) (w := w) (g := fun _ => undef) (H := fun _ => .gone) (ok := fun _ => False) 9997 3 60 [.int .i64 a, .int .i64 b] [.int .i64 c, .int .i64 d] (decide (a = c) && (decide (b = d) && true)) (by kernel_rfl) _ Go.Proofs.Try.underlying60 [.int .i64 a, .int .i64 b] [.int .i64 c, .int .i64 d] ⟨rfl, rfl, trivial⟩ ⟨rfl, rfl, trivial⟩
  exact h
theorem mut.check (w : World) (em : Bool) (a b : Int) : (Instr.checkKey em 10000 60 (pk a b)).run Go.Proofs.Try.prog w = .ok () w := by
  have h : ∀ x y : Value, (Instr.checkKey em 10000 60 (.agg #[x, y])).run Go.Proofs.Try.prog w = .ok () w := fun x y => by
    kernel_rfl
  exact h _ _
theorem mut.now (a b : Int) (e : MapEntry) (l : List MapEntry) (i : Nat) (d : TypeDesc) (hd : Go.Proofs.Try.prog.underlying 60 = some d) : Instr.findNow d (pk a b) (e :: l) i = none := by
  rw [Go.Proofs.Try.underlying60] at hd
  cases hd
  rfl
theorem mut.ask (a b : Int) : ∀ (l : List MapEntry) (i : Nat), (∀ x ∈ l, ∃ c d, x.key = pk c d) →
    ((∀ w, (Instr.findAsking 60 (pk a b) l i).run Go.Proofs.Try.prog w = .ok none w) ∧ ∀ x ∈ l, x.key ≠ pk a b) ∨ ∃ j e, (∀ w, (Instr.findAsking 60 (pk a b) l i).run Go.Proofs.Try.prog w = .ok (some (i + j, e.val)) w) ∧ l[j]? = some e ∧ e.key = pk a b
  | [], i, _ => .inl ⟨fun _ => rfl, by simp⟩
  | e :: l, i, h => by
    obtain ⟨c, d, hk⟩ := h e (.head _)
    by_cases hc : a = c ∧ b = d
    · obtain ⟨rfl, rfl⟩ := hc
      refine .inr ⟨0, e, fun w => ?_, rfl, hk⟩
      have he := mut.eqP w a b a b
      simp only [decide_true, Bool.and_self] at he
      simp only [Instr.findAsking, Sem.run_bind, hk, he, Result.andThen_ok, if_true, Sem.run_pure, Nat.add_zero]
    · have hf : (decide (a = c) && (decide (b = d) && true)) = false := by
        simp only [Bool.and_true, Bool.and_eq_false_iff, decide_eq_false_iff_not]
        by_cases h1 : a = c
        · exact .inr fun h2 => hc ⟨h1, h2⟩
        · exact .inl h1
      have hstep : ∀ w, (Instr.findAsking 60 (pk a b) (e :: l) i).run Go.Proofs.Try.prog w = (Instr.findAsking 60 (pk a b) l (i + 1)).run Go.Proofs.Try.prog w := by
        intro w
        have he := mut.eqP w a b c d
        rw [hf] at he
        simp only [Instr.findAsking, Sem.run_bind, hk, he, Result.andThen_ok, Bool.false_eq_true, if_false]
      have hne : e.key ≠ pk a b := by
        rw [hk]
        intro h'
        have := pk_inj h'
        exact hc ⟨this.1.symm, this.2.symm⟩
      rcases mut.ask a b l (i + 1) (fun x hx => h x (.tail _ hx)) with ⟨h1, h2⟩ | ⟨j, e', h1, h2, h3⟩
      · exact .inl ⟨fun w => (hstep w).trans (h1 w), fun x hx => by
          cases hx with
          | head => exact hne
          | tail _ hx => exact h2 x hx⟩
      · exact .inr ⟨j + 1, e', fun w => by rw [hstep, h1, Nat.add_right_comm, Nat.add_assoc], by simpa using h2, h3⟩
theorem mut.find (a b : Int) (l : List MapEntry) (h : ∀ x ∈ l, ∃ c d, x.key = pk c d) :
    ((∀ w, (Instr.findKey 60 (pk a b) l).run Go.Proofs.Try.prog w = .ok none w) ∧ ∀ x ∈ l, x.key ≠ pk a b) ∨ ∃ j e, (∀ w, (Instr.findKey 60 (pk a b) l).run Go.Proofs.Try.prog w = .ok (some (j, e.val)) w) ∧ l[j]? = some e ∧ e.key = pk a b := by
  cases l with
  | nil => exact .inl ⟨fun w => by simp [Instr.findKey, run_underlying Go.Proofs.Try.underlying60, Instr.findNow, Result.andThen], by simp⟩
  | cons e l =>
    have hs : ∀ w, (Instr.findKey 60 (pk a b) (e :: l)).run Go.Proofs.Try.prog w = (Instr.findAsking 60 (pk a b) (e :: l) 0).run Go.Proofs.Try.prog w := by
      intro w
      have hn := mut.now a b e l 0 _ Go.Proofs.Try.underlying60
      unfold Instr.findKey
      rw [Sem.run_bind, run_underlying Go.Proofs.Try.underlying60, Result.andThen_ok, hn]
    rcases mut.ask a b (e :: l) 0 h with ⟨h1, h2⟩ | ⟨j, e', h1, h2, h3⟩
    · exact .inl ⟨fun w => (hs w).trans (h1 w), h2⟩
    · exact .inr ⟨j, e', fun w => (hs w).trans (by rw [h1 w, Nat.zero_add]), h2, h3⟩
theorem mut.stays (w : World) (a b : Int) : (Instr.keyThatStays (pk a b) (pk a b)).run Go.Proofs.Try.prog w = .ok (pk a b) w := by
  simp [Instr.keyThatStays, Instr.sameBits]
/-- What the map says of the edges so far. -/
structure MInv (l : List (Int × Int × Int × Unit)) (es : Array MapEntry) (clock : Nat) : Prop where
  born : ∀ x ∈ es.toList, x.born < clock
  entry : ∀ x ∈ es.toList, ∃ e ∈ l, ∃ v : Nat, x.key = pk e.1 e.2.1 ∧ x.val = .int .i64 v ∧ 1 ≤ v ∧ v ≤ l.length
  all : ∀ e ∈ l, ∃ x ∈ es.toList, x.key = pk e.1 e.2.1
theorem MInv.keys {l : List (Int × Int × Int × Unit)} {es : Array MapEntry} {clock : Nat} (h : MInv l es clock) : ∀ x ∈ es.toList, ∃ c d, x.key = pk c d := fun x hx => by
  obtain ⟨e, _, v, hk, _⟩ := h.entry x hx
  exact ⟨_, _, hk⟩
theorem mut.zero (w : World) : (zeroValue 3).run Go.Proofs.Try.prog w = .ok (.int .i64 0) w := by kernel_rfl
/-- What a look-up answers. -/
theorem mut.look {l : List (Int × Int × Int × Unit)} {es : Array MapEntry} {clock B : Nat} (h : MInv l es clock) (a b : Int) : ∃ v : Nat, v ≤ l.length ∧ (0 < v ↔ ∃ e ∈ l, e.1 = a ∧ e.2.1 = b) ∧
    ∀ w : World, w.heap[B]? = some (.map es clock) → (Instr.lookup 58 (.map (some B)) (pk a b) false).run Go.Proofs.Try.prog w = .ok (.int .i64 v) w := by
  rcases mut.find a b es.toList h.keys with ⟨h1, h2⟩ | ⟨j, e, h1, h2, h3⟩
  · refine ⟨0, Nat.zero_le _, ⟨fun h => absurd h (Nat.lt_irrefl _), fun ⟨e, he, e1, e2⟩ => ?_⟩, fun w hb => ?_⟩
    · obtain ⟨x, hx, hk⟩ := h.all e he
      exact absurd (by rw [hk, e1, e2]) (h2 x hx)
    · simp [Instr.lookup, run_underlying Go.Proofs.Try.underlying58, MapKept.run_getObj_map hb, mut.check, h1, mut.zero, Result.andThen]
  · obtain ⟨e0, he0, v, hk, hv, hv1, hv2⟩ := h.entry e (List.mem_of_getElem? h2)
    have hp := pk_inj (hk.symm.trans h3)
    refine ⟨v, hv2, ⟨fun _ => ⟨e0, he0, hp.1, hp.2⟩, fun _ => hv1⟩, fun w hb => ?_⟩
    simp [Instr.lookup, run_underlying Go.Proofs.Try.underlying58, MapKept.run_getObj_map hb, mut.check, h1, hv, Result.andThen]
theorem mut.mem {es : Array MapEntry} {i : Nat} {f : MapEntry → MapEntry} {x : MapEntry} (hx : x ∈ (es.modify i f).toList) : x ∈ es.toList ∨ ∃ e, es[i]? = some e ∧ x = f e := by
  rw [Array.mem_toList_iff, Array.mem_iff_getElem?] at hx
  obtain ⟨j, hj⟩ := hx
  rw [Array.getElem?_modify] at hj
  split at hj
  · rename_i hij
    subst hij
    cases he : es[i]? with
    | none => simp [he] at hj
    | some e => simp [he] at hj; exact .inr ⟨e, rfl, hj.symm⟩
  · exact .inl (by rw [Array.mem_toList_iff, Array.mem_iff_getElem?]; exact ⟨j, hj⟩)
theorem mut.mem2 {es : Array MapEntry} {i : Nat} {f : MapEntry → MapEntry} {x : MapEntry} (hx : x ∈ es.toList) (hf : (∀ y, (f y).key = y.key)) : ∃ y ∈ (es.modify i f).toList, y.key = x.key := by
  rw [Array.mem_toList_iff, Array.mem_iff_getElem?] at hx
  obtain ⟨j, hj⟩ := hx
  by_cases h : i = j
  · refine ⟨f x, ?_, hf x⟩
    rw [Array.mem_toList_iff, Array.mem_iff_getElem?]
    exact ⟨j, by rw [Array.getElem?_modify, if_pos h, hj]; rfl⟩
  · refine ⟨x, ?_, rfl⟩
    rw [Array.mem_toList_iff, Array.mem_iff_getElem?]
    exact ⟨j, by rw [Array.getElem?_modify, if_neg h, hj]⟩
theorem mut.last {α : Type} (f : α → α) (a : α) : ∀ l : List α, (l ++ [a]).modify l.length f = l ++ [f a]
  | [] => rfl
  | b :: r => by simp [List.modify_succ_cons, mut.last f a r]
/-- A key's count goes up. -/
theorem mut.put {l : List (Int × Int × Int × Unit)} {es : Array MapEntry} {clock B : Nat} (h : MInv l es clock) (e : Int × Int × Int × Unit) : ∃ (v : Nat) (v0 : Value) (st : Nat) (es1 : Array MapEntry) (clock1 : Nat), v ≤ l.length ∧
    (∀ w : World, w.heap[B]? = some (.map es clock) → (Instr.lookup 58 (.map (some B)) (pk e.1 e.2.1) false).run Go.Proofs.Try.prog w = .ok (.int .i64 v) w) ∧
    (∀ w : World, w.heap[B]? = some (.map es clock) → (Instr.mapEntry 58 (.map (some B)) (pk e.1 e.2.1)).run Go.Proofs.Try.prog w = .ok (.tuple #[v0, .int .i64 (st : Nat)]) { w with heap := w.heap.setIfInBounds B (.map es1 clock1) }) ∧
    (∀ w : World, w.heap[B]? = some (.map es1 clock1) → (Instr.lookup 58 (.map (some B)) (pk e.1 e.2.1) false).run Go.Proofs.Try.prog w = .ok (.int .i64 v) w) ∧
    ∃ (es2 : Array MapEntry) (clock2 : Nat), MInv (l ++ [e]) es2 clock2 ∧ ∀ w : World, w.heap[B]? = some (.map es1 clock1) → (Instr.entryStore 58 (.map (some B)) (.int .i64 (st : Nat)) (.int .i64 ((v : Int) + 1))).run Go.Proofs.Try.prog w = .ok () { w with heap := w.heap.setIfInBounds B (.map es2 clock2) } := by
  obtain ⟨v, hv, hv0, hlk⟩ := mut.look (B := B) h e.1 e.2.1
  rcases mut.find e.1 e.2.1 es.toList h.keys with ⟨h1, h2⟩ | ⟨j, x, h1, h2, h3⟩
  · have hz : v = 0 := by
      rcases Nat.eq_zero_or_pos v with h0 | h0
      · exact h0
      · obtain ⟨e', he', e1, e2⟩ := hv0.1 h0
        obtain ⟨x, hx, hk⟩ := h.all e' he'
        exact absurd (by rw [hk, e1, e2]) (h2 x hx)
    subst hz
    have hf : (es.push ⟨pk e.1 e.2.1, .int .i64 0, clock⟩).findIdx? (fun y => ((y.born : Nat) : Int) == ((clock : Nat) : Int)) = some es.size := by
      rw [Array.findIdx?_eq_some_iff_getElem]
      refine ⟨by simp, by simp, fun j hj => ?_⟩
      have hj' : j < es.size := hj
      rw [Array.getElem_push_lt hj']
      have := h.born es[j] (Array.mem_toList_iff.2 (Array.getElem_mem hj'))
      simp only [beq_iff_eq, Int.natCast_inj]
      omega
    refine ⟨0, .int .i64 0, clock, es.push ⟨pk e.1 e.2.1, .int .i64 0, clock⟩, clock + 1, hv, hlk, fun w hb => ?_, fun w hb => ?_, es.push ⟨pk e.1 e.2.1, .int .i64 (((0 : Nat) : Int) + 1), clock⟩, clock + 1, ⟨fun y hy => ?_, fun y hy => ?_, fun y hy => ?_⟩, fun w hb => ?_⟩
    · simp [Instr.mapEntry, run_underlying Go.Proofs.Try.underlying58, MapKept.run_getObj_map hb, mut.check, h1, mut.zero, MapKept.run_setObj_map _ hb, Result.andThen, goInt]
    · rcases mut.find e.1 e.2.1 (es.push ⟨pk e.1 e.2.1, .int .i64 0, clock⟩).toList (fun y hy => by
        simp only [Array.toList_push, List.mem_append, List.mem_singleton] at hy
        rcases hy with hy | rfl
        · exact h.keys y hy
        · exact ⟨_, _, rfl⟩) with ⟨_, g2⟩ | ⟨j, x, g1, g2, g3⟩
      · exact absurd rfl (g2 ⟨pk e.1 e.2.1, .int .i64 0, clock⟩ (by simp))
      · have hx : x.val = .int .i64 0 := by
          have hm := List.mem_of_getElem? g2
          simp only [Array.toList_push, List.mem_append, List.mem_singleton] at hm
          rcases hm with hm | rfl
          · exact absurd g3 (h2 x hm)
          · rfl
        rw [Array.toList_push] at g1
        simp [Instr.lookup, run_underlying Go.Proofs.Try.underlying58, MapKept.run_getObj_map hb, mut.check, g1, hx, Result.andThen]
    · simp only [Array.toList_push, List.mem_append, List.mem_singleton] at hy
      rcases hy with hy | rfl
      · exact Nat.lt_succ_of_lt (h.born y hy)
      · exact Nat.lt_succ_self _
    · simp only [Array.toList_push, List.mem_append, List.mem_singleton] at hy
      rcases hy with hy | rfl
      · obtain ⟨e', he', v, q1, q2, q3, q4⟩ := h.entry y hy
        exact ⟨e', List.mem_append_left _ he', v, q1, q2, q3, by rw [List.length_append]; omega⟩
      · exact ⟨e, by simp, 1, rfl, rfl, Nat.le_refl _, by simp⟩
    · rcases List.mem_append.1 hy with hy | hy
      · obtain ⟨x, hx, hk⟩ := h.all y hy
        exact ⟨x, by rw [Array.toList_push]; exact List.mem_append_left _ hx, hk⟩
      · have : y = e := by simpa using hy
        subst this
        exact ⟨_, by rw [Array.toList_push]; exact List.mem_append_right _ (.head _), rfl⟩
    · have hmod : (es.push ⟨pk e.1 e.2.1, .int .i64 0, clock⟩).modify es.size (fun y => { y with val := .int .i64 (((0 : Nat) : Int) + 1) }) = es.push ⟨pk e.1 e.2.1, .int .i64 (((0 : Nat) : Int) + 1), clock⟩ := by
        apply Array.ext'
        rw [Array.toList_modify, Array.toList_push, Array.toList_push, ← Array.length_toList, mut.last]
      have hw : IntKind.i64.wrap ((clock : Nat) : Int) = ((clock : Nat) : Int) → True := fun _ => trivial
      simp only [Instr.entryStore, Sem.run_bind, MapKept.run_getObj_map hb, Result.andThen_ok, asInt, asIntOf, goInt, Sem.run_pure, hf, MapKept.run_setObj_map _ hb, hmod, Functor.map, Sem.run_map]
  · obtain ⟨e0, he0, v', hk, hx, hv1, hv2⟩ := h.entry x (List.mem_of_getElem? h2)
    have hj : es[j]? = some x := by simpa using h2
    have hlt : j < es.size := (Array.getElem?_eq_some_iff.1 hj).1
    have hself : (es.modify j fun y => { y with key := pk e.1 e.2.1 }) = es := by
      apply Array.ext_getElem?
      intro i
      rw [Array.getElem?_modify]
      by_cases hi : j = i
      · subst hi
        rw [if_pos rfl, hj, ← h3]
        rfl
      · rw [if_neg hi]
    obtain ⟨i', hf, hi'⟩ : ∃ i', es.findIdx? (fun y => ((y.born : Nat) : Int) == ((x.born : Nat) : Int)) = some i' ∧ i' < es.size := by
      cases hc : es.findIdx? (fun y => ((y.born : Nat) : Int) == ((x.born : Nat) : Int)) with
      | none =>
        rw [Array.findIdx?_eq_none_iff] at hc
        have := hc x (Array.mem_of_getElem? hj)
        simp at this
      | some i' => exact ⟨i', rfl, (Array.findIdx?_eq_some_iff_getElem.1 hc).1⟩
    refine ⟨v, x.val, x.born, es, clock, hv, hlk, fun w hb => ?_, hlk, es.modify i' (fun y => { y with val := .int .i64 ((v : Int) + 1) }), clock, ⟨fun y hy => ?_, fun y hy => ?_, fun y hy => ?_⟩, fun w hb => ?_⟩
    · simp [Instr.mapEntry, run_underlying Go.Proofs.Try.underlying58, MapKept.run_getObj_map hb, mut.check, h1, hj, h3, mut.stays, hself, MapKept.run_setObj_map _ hb, Result.andThen, goInt]
    · rcases mut.mem hy with hy | ⟨y0, hy0, rfl⟩
      · exact h.born y hy
      · exact h.born y0 (Array.mem_toList_iff.2 (Array.mem_of_getElem? hy0))
    · rcases mut.mem hy with hy | ⟨y0, hy0, rfl⟩
      · obtain ⟨e', he', v, q1, q2, q3, q4⟩ := h.entry y hy
        exact ⟨e', List.mem_append_left _ he', v, q1, q2, q3, by rw [List.length_append]; omega⟩
      · obtain ⟨e', he', v2, q1, q2, q3, q4⟩ := h.entry y0 (Array.mem_toList_iff.2 (Array.mem_of_getElem? hy0))
        exact ⟨e', List.mem_append_left _ he', v + 1, q1, rfl, by omega, by simp; omega⟩
    · have hold : ∀ y ∈ l, ∃ x_1 ∈ (es.modify i' (fun y => { y with val := .int .i64 ((v : Int) + 1) })).toList, x_1.key = pk y.1 y.2.1 := by
        intro y hy
        obtain ⟨x1, hx1, hk1⟩ := h.all y hy
        obtain ⟨x2, hx2, hk2⟩ := mut.mem2 (i := i') (f := fun y => { y with val := .int .i64 ((v : Int) + 1) }) hx1 (fun _ => rfl)
        exact ⟨x2, hx2, hk2.trans hk1⟩
      rcases List.mem_append.1 hy with hy | hy
      · exact hold y hy
      · have : y = e := by simpa using hy
        subst this
        obtain ⟨x2, hx2, hk2⟩ := mut.mem2 (i := i') (f := fun y => { y with val := .int .i64 ((v : Int) + 1) }) (List.mem_of_getElem? h2) (fun _ => rfl)
        exact ⟨x2, hx2, hk2.trans h3⟩
    · simp only [Instr.entryStore, Sem.run_bind, MapKept.run_getObj_map hb, Result.andThen_ok, asInt, asIntOf, goInt, Sem.run_pure, hf, MapKept.run_setObj_map _ hb, Functor.map, Sem.run_map]
theorem mut.make (W : World) : (Instr.makeMap 58 none).run Go.Proofs.Try.prog W = .ok (.map (some W.heap.size)) (W.alloc (.map #[] 0)) := by
  simp [Instr.makeMap, Result.andThen]
/-- What stands in memory ahead of round k of the first loop. -/
def MuI (w : World) (N : Int) (es : List (Int × Int × Int × Unit)) (A : Option Addr) (n c : Nat) (k : Nat) (wr : World) : Prop :=
  BelowO (fun j => w.heap.size ≤ j) w wr ∧ wr.heap.size = w.heap.size + 3 + k ∧ wr.heap[w.heap.size]? = some (.cells #[.int .i64 N, .slice A n c] 24 (0, 0)) ∧ wr.heap[w.heap.size + 1]? = some (.cells #[.int .i64 0, .slice none 0 0] 24 (0, 0)) ∧
    ∃ mes clock, wr.heap[w.heap.size + 2]? = some (.map mes clock) ∧ MInv (es.take k) mes clock
theorem mut.round {w wr : World} {N : Int} {es : List (Int × Int × Int × Unit)} {A : Option Addr} {n c k : Nat} {x1 x2 x3 : Int} (hx : es[k]? = some (x1, x2, x3, ())) (hI : MuI w N es A n c k wr) :
    ∃ (v : Nat) (v0 : Value) (st : Nat) (W1 W2 : World), v ≤ k ∧
      (Instr.lookup 58 (.map (some (w.heap.size + 2))) (pk x1 x2) false).run Go.Proofs.Try.prog (wr.alloc (.cells #[.int .i64 x1, .int .i64 x2, .int .i64 x3] 44)).drew = .ok (.int .i64 v) (wr.alloc (.cells #[.int .i64 x1, .int .i64 x2, .int .i64 x3] 44)).drew ∧
      (Instr.mapEntry 58 (.map (some (w.heap.size + 2))) (pk x1 x2)).run Go.Proofs.Try.prog (wr.alloc (.cells #[.int .i64 x1, .int .i64 x2, .int .i64 x3] 44)).drew = .ok (.tuple #[v0, .int .i64 (st : Nat)]) W1 ∧
      (Instr.lookup 58 (.map (some (w.heap.size + 2))) (pk x1 x2) false).run Go.Proofs.Try.prog W1 = .ok (.int .i64 v) W1 ∧
      (Instr.entryStore 58 (.map (some (w.heap.size + 2))) (.int .i64 (st : Nat)) (.int .i64 ((v : Int) + 1))).run Go.Proofs.Try.prog W1 = .ok () W2 ∧ MuI w N es A n c (k + 1) W2 := by
  obtain ⟨hbel, hsz, h1, h2, mes, clock, h3, hM⟩ := hI
  obtain ⟨v, v0, st, es1, clock1, hv, p1, p2, p3, es2, clock2, hM2, p4⟩ := mut.put (B := w.heap.size + 2) hM (x1, x2, x3, ())
  obtain ⟨W0, hW0⟩ : ∃ W0, W0 = (wr.alloc (.cells #[.int .i64 x1, .int .i64 x2, .int .i64 x3] 44)).drew := ⟨_, rfl⟩
  rw [← hW0]
  have hat : ∀ j, j < wr.heap.size → W0.heap[j]? = wr.heap[j]? := fun j hj => by rw [hW0]; exact heap_alloc_old wr _ hj
  have hs0 : W0.heap.size = wr.heap.size + 1 := by rw [hW0]; show (wr.heap.push _).size = _; rw [Array.size_push]
  have hb0 : W0.heap[w.heap.size + 2]? = some (.map mes clock) := (hat _ (by omega)).trans h3
  have hb1 : ({ W0 with heap := W0.heap.setIfInBounds (w.heap.size + 2) (.map es1 clock1) } : World).heap[w.heap.size + 2]? = some (.map es1 clock1) := by
    show (W0.heap.setIfInBounds (w.heap.size + 2) (.map es1 clock1))[w.heap.size + 2]? = _
    rw [Array.getElem?_setIfInBounds_self_of_lt (by omega)]
  have hkl : k < es.length := (List.getElem?_eq_some_iff.1 hx).1
  have htk : es.take (k + 1) = es.take k ++ [(x1, x2, x3, ())] := by
    rw [List.take_succ_eq_append_getElem hkl]
    congr 2
    exact (List.getElem?_eq_some_iff.1 hx).2
  refine ⟨v, v0, st, _, _, Nat.le_trans hv (by rw [List.length_take]; omega), p1 W0 hb0, p2 W0 hb0, p3 _ hb1, p4 _ hb1, ⟨?_, ?_, ?_, ?_, ?_⟩, ?_, ?_, ?_, es2, clock2, ?_, ?_⟩
  · rw [hW0]; exact hbel.os
  · rw [hW0]; exact hbel.tape
  · rw [hW0]; exact hbel.output
  · show w.heap.size ≤ ((W0.heap.setIfInBounds _ _).setIfInBounds _ _).size
    simp; omega
  · intro j hj hno
    show ((W0.heap.setIfInBounds _ _).setIfInBounds _ _)[_]? = _
    rw [Array.getElem?_setIfInBounds_ne (by omega), Array.getElem?_setIfInBounds_ne (by omega), hat _ (by omega)]
    exact hbel.block j hj hno
  · show ((W0.heap.setIfInBounds _ _).setIfInBounds _ _).size = _
    simp; omega
  · show ((W0.heap.setIfInBounds _ _).setIfInBounds _ _)[_]? = _
    rw [Array.getElem?_setIfInBounds_ne (by omega), Array.getElem?_setIfInBounds_ne (by omega), hat _ (by omega)]
    exact h1
  · show ((W0.heap.setIfInBounds _ _).setIfInBounds _ _)[_]? = _
    rw [Array.getElem?_setIfInBounds_ne (by omega), Array.getElem?_setIfInBounds_ne (by omega), hat _ (by omega)]
    exact h2
  · show ((W0.heap.setIfInBounds (w.heap.size + 2) (.map es1 clock1)).setIfInBounds (w.heap.size + 2) (.map es2 clock2))[w.heap.size + 2]? = _
    rw [Array.getElem?_setIfInBounds_self_of_lt (by rw [Array.size_setIfInBounds]; omega)]
  · rw [htk]; exact hM2
/-- Those of the edges that have one back. -/
def muF (es : List (Int × Int × Int × Unit)) (k : Nat) : List (Int × Int × Int × Unit) := (es.take k).filter fun x => es.any fun y => decide (y.1 = x.2.1 ∧ y.2.1 = x.1)
def eC (x : Int × Int × Int × Unit) : List Value := [.int .i64 x.1, .int .i64 x.2.1, .int .i64 x.2.2.1]
theorem mut.en {w : World} {ok : Nat → Prop} : ∀ (xs : List (Int × Int × Int × Unit)), All2 (En w ok (.cons (.int .i64) (.cons (.int .i64) (.cons (.int .i64) .nil)))) xs (xs.map eC)
  | [] => trivial
  | x :: xs => ⟨⟨[.int .i64 x.1], _, rfl, rfl, [.int .i64 x.2.1], _, rfl, rfl, [.int .i64 x.2.2.1], [], rfl, rfl, rfl⟩, mut.en xs⟩
theorem mut.en_eq {w : World} {ok : Nat → Prop} {x : Int × Int × Int × Unit} {cs : List Value} (h : En w ok (.cons (.int .i64) (.cons (.int .i64) (.cons (.int .i64) .nil))) x cs) : cs = eC x := by
  obtain ⟨c1, c2, rfl, h1, c3, c4, rfl, h2, c5, c6, rfl, h3, h4⟩ := h
  have e1 : c1 = [.int .i64 x.1] := h1
  have e2 : c3 = [.int .i64 x.2.1] := h2
  have e3 : c5 = [.int .i64 x.2.2.1] := h3
  have e4 : c6 = [] := h4
  subst e1 e2 e3 e4
  rfl
theorem mut.own_mono {w w' : World} {n : Nat} {xs : List Value} {u : Value} (h : ownsR w 44 3 u n xs) (hb : ∀ b, blkOf u = some b → w'.heap[b]? = w.heap[b]?) : ownsR w' 44 3 u n xs := by
  refine ⟨h.1, ?_⟩
  rcases h.2 with h2 | ⟨q, o, cap, cur, rfl, h0, hh, r⟩
  · exact .inl h2
  · exact .inr ⟨q, o, cap, cur, rfl, h0, (hb q rfl).trans hh, r⟩
theorem mut.own_lt {w : World} {n : Nat} {xs : List Value} {u : Value} (h : ownsR w 44 3 u n xs) {b : Nat} (hb : blkOf u = some b) : b < w.heap.size := by
  rcases h.2 with ⟨rfl, _⟩ | ⟨q, o, cap, cur, rfl, h0, hh, r⟩
  · cases hb
  · simp only [blkOf, Option.some.injEq] at hb
    subst hb
    exact (Array.getElem?_eq_some_iff.1 hh).1
theorem mut.own_sl {w : World} {n : Nat} {xs : List Value} {u : Value} (h : ownsR w 44 3 u n xs) : ∃ A m c, u = .slice A m c := by
  rcases h.2 with ⟨h, _⟩ | ⟨q, o, cap, cur, h, _⟩
  · exact ⟨_, _, _, h⟩
  · exact ⟨_, _, _, h⟩
theorem mut.own_np {w : World} {n : Nat} {xs : List Value} {u : Value} (h : ownsR w 44 3 u n xs) : u.ownBlock = blkOf u := by
  obtain ⟨A, m, c, rfl⟩ := mut.own_sl h
  exact blk_own _ fun p e => by cases e
/-- What stands in memory ahead of round k of the second loop; q is the block of the graph that is made. -/
def MuI2 (w : World) (N : Int) (es : List (Int × Int × Int × Unit)) (mes : Array MapEntry) (clock q : Nat) (k : Nat) (wr : World) : Prop :=
  BelowO (fun j => w.heap.size ≤ j) w wr ∧ q < wr.heap.size ∧ wr.heap[w.heap.size + 1]? = some (.cells #[.int .i64 0, .slice none 0 0] 24 (0, 0)) ∧ wr.heap[w.heap.size + 2]? = some (.map mes clock) ∧
    ∃ v, wr.heap[q]? = some (.cells #[.int .i64 N, v] 24 (0, 0)) ∧ ownsR wr 44 3 v (muF es k).length ((muF es k).map eC).flatten ∧ ∀ b, blkOf v = some b → q < b
theorem muF_succ {es : List (Int × Int × Int × Unit)} {k : Nat} {x : Int × Int × Int × Unit} (hx : es[k]? = some x) : muF es (k + 1) = muF es k ++ if (es.any fun y => decide (y.1 = x.2.1 ∧ y.2.1 = x.1)) = true then [x] else [] := by
  obtain ⟨hk, rfl⟩ := List.getElem?_eq_some_iff.1 hx
  unfold muF
  rw [List.take_succ_eq_append_getElem hk, List.filter_append]
  congr 1
  cases h : (es.any fun y => decide (y.1 = es[k].2.1 ∧ y.2.1 = es[k].1)) <;> simp only [List.filter_cons, List.filter_nil, h, if_true, Bool.false_eq_true, if_false]
theorem muF_len (es : List (Int × Int × Int × Unit)) (k : Nat) : (muF es k).length ≤ es.length :=
  Nat.le_trans (List.length_filter_le _ _) (by rw [List.length_take]; omega)
/-- An edge that has none back. -/
theorem mut.skip {w wr : World} {N : Int} {es : List (Int × Int × Int × Unit)} {mes : Array MapEntry} {clock q k : Nat} {x : Int × Int × Int × Unit} (hq : w.heap.size + 2 < q) (hx : es[k]? = some x) (hn : (es.any fun y => decide (y.1 = x.2.1 ∧ y.2.1 = x.1)) = false) (hI : MuI2 w N es mes clock q k wr) (o : Obj) : MuI2 w N es mes clock q (k + 1) (wr.alloc o) := by
  obtain ⟨hbel, hqs, h1, h2, v, h3, hown, hblk⟩ := hI
  have hat : ∀ j, j < wr.heap.size → (wr.alloc o).heap[j]? = wr.heap[j]? := fun j hj => heap_alloc_old wr o hj
  refine ⟨⟨hbel.os, hbel.tape, hbel.output, ?_, fun j hj hno => (hat j (by have := hbel.size; omega)).trans (hbel.block j hj hno)⟩, ?_, (hat _ (by omega)).trans h1, (hat _ (by omega)).trans h2, v, (hat _ hqs).trans h3, ?_, hblk⟩
  · have := hbel.size; simp; omega
  · simp; omega
  · rw [muF_succ hx, hn]
    simp only [Bool.false_eq_true, if_false, List.append_nil]
    exact mut.own_mono hown fun b hb => hat b (mut.own_lt hown hb)
/-- An edge that has one. -/
theorem mut.app {w wr : World} {N : Int} {es : List (Int × Int × Int × Unit)} {mes : Array MapEntry} {clock q k : Nat} {x1 x2 x3 : Int} (hes : es.length ≤ 100000) (hq : w.heap.size + 2 < q) (hx : es[k]? = some (x1, x2, x3, ())) (hn : (es.any fun y => decide (y.1 = x2 ∧ y.2.1 = x1)) = true) (hI : MuI2 w N es mes clock q k wr) :
    ∃ v A' m' c' w', (wr.alloc (.cells #[.int .i64 x1, .int .i64 x2, .int .i64 x3] 44)).cell? ⟨q, 1, none⟩ = some v ∧
      (Builtin.append_ #[22, 22] 22 #[v, .slice (some ⟨wr.heap.size + 1, 0, none⟩) 1 1]).run Go.Proofs.Try.prog ((wr.alloc (.cells #[.int .i64 x1, .int .i64 x2, .int .i64 x3] 44)).alloc (.cells #[.int .i64 x1, .int .i64 x2, .int .i64 x3] 44)) = .ok (.slice A' m' c') w' ∧
      w'.cell? ⟨q, 1, none⟩ = some v ∧ w'.frozen? ⟨q, 1, none⟩ = false ∧ MuI2 w N es mes clock q (k + 1) (w'.setCell ⟨q, 1, none⟩ (.slice A' m' c')) := by
  obtain ⟨hbel, hqs, h1, h2, u, h3, hown, hblk⟩ := hI
  obtain ⟨EB, hEB⟩ : ∃ EB : Obj, EB = .cells #[.int .i64 x1, .int .i64 x2, .int .i64 x3] 44 (0, 0) := ⟨_, rfl⟩
  obtain ⟨W, hW⟩ : ∃ W, W = (wr.alloc EB).alloc EB := ⟨_, rfl⟩
  have hWs : W.heap.size = wr.heap.size + 2 := by rw [hW]; simp
  have hWat : ∀ j, j < wr.heap.size → W.heap[j]? = wr.heap[j]? := fun j hj => by
    rw [hW, heap_alloc_old _ _ (by simp; omega), heap_alloc_old _ _ hj]
  have hW2 : W.heap[wr.heap.size + 1]? = some EB := by
    have e : (wr.alloc EB).heap.size = wr.heap.size + 1 := by simp
    rw [hW, ← e, heap_alloc_new]
  have hcell : ∀ (W : World) u, W.heap[q]? = some (.cells #[.int .i64 N, u] 24 (0, 0)) → W.cell? ⟨q, 1, none⟩ = some u ∧ W.frozen? ⟨q, 1, none⟩ = false := by
    intro W u hW
    refine ⟨?_, ?_⟩
    · unfold World.cell?
      simp [hW]
    · unfold World.frozen?
      simp [hW]
  have hownW : ownsR W 44 3 u (muF es k).length ((muF es k).map eC).flatten := mut.own_mono hown fun b hb => hWat b (mut.own_lt hown hb)
  obtain ⟨ti, hti, t1, t2, t3⟩ : ∃ ti, tinfo Go.Proofs.Try.prog 44 = some ti ∧ ti.size = 3 ∧ ti.bytes = 24 ∧ ti.zero.cells.size = 3 := by
    have h : (tinfo Go.Proofs.Try.prog 44).map (fun ti => (decide (ti.size = 3), decide (ti.bytes = 24), decide (ti.zero.cells.size = 3))) = some (true, true, true) := by kernel_rfl
    cases ht : tinfo Go.Proofs.Try.prog 44 with
    | none => rw [ht] at h; cases h
    | some ti =>
      rw [ht] at h
      simp only [Option.map_some, Option.some.injEq, Prod.mk.injEq, decide_eq_true_eq] at h
      exact ⟨ti, rfl, h.1, h.2.1, h.2.2⟩
  have hll := muF_len es k
  have hsrc : SrcR W (fun _ => True) (.cons (.int .i64) (.cons (.int .i64) (.cons (.int .i64) .nil))) [((x1, x2, x3, ()) : Int × Int × Int × Unit)] (.slice (some ⟨wr.heap.size + 1, 0, none⟩) 1 1) := by
    refine ⟨_, _, [eC (x1, x2, x3, ())], rfl, mut.en [(x1, x2, x3, ())], fun j v hj => ⟨_, rfl, ?_⟩⟩
    have hj' : [Value.int .i64 x1, .int .i64 x2, .int .i64 x3][j]? = some v := by simpa [eC] using hj
    rw [add_at]
    unfold World.cell?
    simp only [hW2, hEB]
    simpa using hj'
  obtain ⟨v', w', csy, hrun, hcy, hown', hgrow, hat⟩ := app_core (P := Go.Proofs.Try.prog) (T := 22) (e := 44) (t := (.cons (.int .i64) (.cons (.int .i64) (.cons (.int .i64) .nil)))) (ok := fun _ => True) Go.Proofs.Try.underlying22 hti t1 (by decide) (by omega) (by rw [t3, t1]) (xs := muF es k) (ys := [((x1, x2, x3, ()) : Int × Int × Int × Unit)]) (css := (muF es k).map eC) hownW hsrc (by
    rw [t2]
    show (muF es k).length + 1 ≤ _
    unfold maxBytes
    omega) 22
  have hcy' : csy.flatten = eC (x1, x2, x3, ()) := by
    cases csy with
    | nil => exact hcy.elim
    | cons c r =>
      have e : c = eC (x1, x2, x3, ()) := mut.en_eq hcy.1
      cases r with
      | nil => rw [e]; rfl
      | cons _ _ => exact hcy.2.elim
  rw [hcy'] at hown'
  have hown2 : ownsR w' 44 3 v' ((muF es k).length + 1) (((muF es k).map eC).flatten ++ eC (x1, x2, x3, ())) := hown'
  clear hown'
  obtain ⟨A', m', c', rfl⟩ := mut.own_sl hown2
  have hub : u.ownBlock = blkOf u := mut.own_np hown
  have hvb := mut.own_np hown2
  rw [hub] at hgrow hat
  rw [hvb] at hat
  have hnb : ∀ b, blkOf u = some b → q < b ∧ b < wr.heap.size := fun b hb => ⟨hblk b hb, mut.own_lt hown hb⟩
  have hg : ∀ j, j < wr.heap.size → blkOf u ≠ some j → w'.heap[j]? = wr.heap[j]? := fun j hj hne => (hgrow.block j (by omega) fun e => hne e.symm).trans (hWat j hj)
  have hq' : w'.heap[q]? = some (.cells #[.int .i64 N, u] 24 (0, 0)) := (hg q hqs fun e => by have := hnb _ e; omega).trans h3
  have hat' : ∀ b, blkOf (.slice A' m' c') = some b → q < b := by
    intro b hb
    rcases hat with h | h
    · exact (hnb b (by rw [← h]; exact hb)).1
    · rw [hb] at h
      have := Option.some.inj h
      omega
  have hlt1 : q < w'.heap.size := (Array.getElem?_eq_some_iff.1 hq').1
  have hset : (w'.setCell ⟨q, 1, none⟩ (.slice A' m' c')).heap = w'.heap.setIfInBounds q (.cells #[.int .i64 N, .slice A' m' c'] 24 (0, 0)) := by
    apply Array.ext_getElem?
    intro j
    unfold World.setCell
    rw [Array.getElem?_modify, Array.getElem?_setIfInBounds]
    by_cases hj : q = j
    · subst hj
      rw [if_pos rfl, if_pos rfl, if_pos hlt1, hq']
      simp
    · rw [if_neg hj, if_neg hj]
  have hs1 : (w'.setCell ⟨q, 1, none⟩ (.slice A' m' c')).heap[q]? = some (.cells #[.int .i64 N, .slice A' m' c'] 24 (0, 0)) := by
    rw [hset, Array.getElem?_setIfInBounds_self_of_lt hlt1]
  have hs2 : ∀ j, j ≠ q → (w'.setCell ⟨q, 1, none⟩ (.slice A' m' c')).heap[j]? = w'.heap[j]? := fun j hj => by
    rw [hset, Array.getElem?_setIfInBounds_ne (fun e => hj e.symm)]
  have hs3 : (w'.setCell ⟨q, 1, none⟩ (.slice A' m' c')).heap.size = w'.heap.size := by rw [hset]; simp
  have hgs := hgrow.size
  refine ⟨u, A', m', c', w', ?_, ?_, (hcell w' u hq').1, (hcell w' u hq').2, ⟨?_, ?_, ?_, ?_, ?_⟩, ?_, ?_, ?_, _, hs1, ?_, hat'⟩
  · rw [← hEB]; exact (hcell _ u ((heap_alloc_old wr EB hqs).trans h3)).1
  · rw [← hEB, ← hW]; exact hrun
  · exact hgrow.os.trans (by rw [hW]; exact hbel.os)
  · exact hgrow.tape.trans (by rw [hW]; exact hbel.tape)
  · exact hgrow.output.trans (by rw [hW]; exact hbel.output)
  · rw [hs3]; have := hbel.size; omega
  · intro j hj hno
    have := hbel.size
    rw [hs2 j (by omega), hg j (by omega) (fun e => by have := hnb _ e; omega)]
    exact hbel.block j hj hno
  · rw [hs3]; exact hlt1
  · rw [hs2 _ (by omega), hg _ (by omega) (fun e => by have := hnb _ e; omega)]; exact h1
  · rw [hs2 _ (by omega), hg _ (by omega) (fun e => by have := hnb _ e; omega)]; exact h2
  · rw [muF_succ hx]
    simp only [hn, if_true, List.length_append, List.length_cons, List.length_nil, List.map_append, List.map_cons, List.map_nil, List.flatten_append, List.flatten_cons, List.flatten_nil, List.append_nil]
    exact mut.own_mono hown2 fun b hb => hs2 b (by have := hat' b hb; omega)
theorem mut.start (w : World) (N : Int) (es : List (Int × Int × Int × Unit)) (A : Option Addr) (n c : Nat) : MuI w N es A n c 0 (((w.alloc (.cells #[.int .i64 N, .slice A n c] 24)).alloc (.cells #[.int .i64 0, .slice none 0 0] 24)).alloc (.map #[] 0)) := by
  have e1 : ∀ (W : World) o, (W.alloc o).heap.size = W.heap.size + 1 := fun W o => by simp
  refine ⟨⟨rfl, rfl, rfl, by simp; omega, fun j hj _ => ?_⟩, by simp, ?_, ?_, #[], 0, ?_, ⟨by simp, by simp, by simp⟩⟩
  · rw [heap_alloc_old _ _ (by rw [e1, e1]; omega), heap_alloc_old _ _ (by rw [e1]; omega), heap_alloc_old _ _ hj]
  · rw [heap_alloc_old _ _ (by rw [e1, e1]; omega), heap_alloc_old _ _ (by rw [e1]; omega), heap_alloc_new]
  · rw [heap_alloc_old _ _ (by rw [e1, e1]; omega), ← e1 w (.cells #[.int .i64 N, .slice A n c] 24), heap_alloc_new]
  · have e : w.heap.size + 2 = ((w.alloc (.cells #[.int .i64 N, .slice A n c] 24)).alloc (.cells #[.int .i64 0, .slice none 0 0] 24)).heap.size := by rw [e1, e1]
    rw [e, heap_alloc_new]
theorem mut.start2 {w wr : World} {N : Int} {es : List (Int × Int × Int × Unit)} {A : Option Addr} {n c k : Nat} {mes : Array MapEntry} {clock : Nat} (hbel : BelowO (fun j => w.heap.size ≤ j) w wr) (hsz : wr.heap.size = w.heap.size + 3 + k) (h1 : wr.heap[w.heap.size]? = some (.cells #[.int .i64 N, .slice A n c] 24 (0, 0))) (h2 : wr.heap[w.heap.size + 1]? = some (.cells #[.int .i64 0, .slice none 0 0] 24 (0, 0))) (h3 : wr.heap[w.heap.size + 2]? = some (.map mes clock)) :
    wr.cell? ⟨w.heap.size, 0, none⟩ = some (.int .i64 N) ∧ wr.cell? ⟨w.heap.size, 1, none⟩ = some (.slice A n c) ∧ (wr.alloc (.cells #[.int .i64 N, .slice none 0 0] 24)).cell? ⟨w.heap.size, 1, none⟩ = some (.slice A n c) ∧ MuI2 w N es mes clock wr.heap.size 0 (wr.alloc (.cells #[.int .i64 N, .slice none 0 0] 24)) := by
  have hat : ∀ o : Obj, ∀ j, j < wr.heap.size → (wr.alloc o).heap[j]? = wr.heap[j]? := fun o j hj => heap_alloc_old wr o hj
  refine ⟨?_, ?_, ?_, ⟨hbel.os, hbel.tape, hbel.output, by simp; omega, fun j hj hno => (hat _ j (by omega)).trans (hbel.block j hj hno)⟩, by simp, (hat _ _ (by omega)).trans h2, (hat _ _ (by omega)).trans h3, _, heap_alloc_new wr _, ?_, fun b hb => by cases hb⟩
  · unfold World.cell?; simp [h1]
  · unfold World.cell?; simp [h1]
  · unfold World.cell?; simp only [hat (.cells #[.int .i64 N, .slice none 0 0] 24) _ (show w.heap.size < wr.heap.size by omega), h1]; simp
  · exact ownsR_nil _ _ _
/-- What it answers, and what it leaves. -/
def MuPost (w : World) (N : Int) (es : List (Int × Int × Int × Unit)) (e : Ending) (w' : World) : Prop :=
  ∃ v, e = .returned (.agg #[.int .i64 N, v]) ∧ BelowO (fun j => w.heap.size ≤ j) w w' ∧ ownsR w' 44 3 v (muF es es.length).length ((muF es es.length).map eC).flatten ∧ ∀ b, blkOf v = some b → w.heap.size ≤ b
theorem mut.fin {w wr : World} {N : Int} {es : List (Int × Int × Int × Unit)} {mes : Array MapEntry} {clock q k : Nat} (hk : k = es.length) (hq : w.heap.size + 2 < q) (hI : MuI2 w N es mes clock q k wr) :
    ∃ A' m' c', wr.cell? ⟨q, 0, none⟩ = some (.int .i64 N) ∧ wr.cell? ⟨q, 1, none⟩ = some (.slice A' m' c') ∧ wr.cell? ⟨w.heap.size + 1, 0, none⟩ = some (.int .i64 0) ∧ wr.cell? ⟨w.heap.size + 1, 1, none⟩ = some (.slice none 0 0) ∧ wr.frozen? ⟨w.heap.size + 1, 0, none⟩ = false ∧ wr.frozen? ⟨w.heap.size + 1, 1, none⟩ = false ∧
      ((wr.setCell ⟨w.heap.size + 1, 0, none⟩ (.int .i64 N)).setCell ⟨w.heap.size + 1, 1, none⟩ (.slice A' m' c')).cell? ⟨w.heap.size + 1, 0, none⟩ = some (.int .i64 N) ∧ ((wr.setCell ⟨w.heap.size + 1, 0, none⟩ (.int .i64 N)).setCell ⟨w.heap.size + 1, 1, none⟩ (.slice A' m' c')).cell? ⟨w.heap.size + 1, 1, none⟩ = some (.slice A' m' c') ∧
      MuPost w N es (.returned (.agg #[.int .i64 N, .slice A' m' c'])) ((wr.setCell ⟨w.heap.size + 1, 0, none⟩ (.int .i64 N)).setCell ⟨w.heap.size + 1, 1, none⟩ (.slice A' m' c')) := by
  obtain ⟨hbel, hqs, h1, h2, v, h3, hown, hblk⟩ := hI
  obtain ⟨A', m', c', rfl⟩ := mut.own_sl hown
  have hs : ∀ (W : World) off u j, j ≠ w.heap.size + 1 → (W.setCell ⟨w.heap.size + 1, off, none⟩ u).heap[j]? = W.heap[j]? := fun W off u j hj => by
    unfold World.setCell
    rw [Array.getElem?_modify, if_neg (fun e => hj e.symm)]
  have hz : ∀ (W : World) off u, (W.setCell ⟨w.heap.size + 1, off, none⟩ u).heap.size = W.heap.size := fun W off u => by
    unfold World.setCell
    rw [Array.size_modify]
  have hh : ((wr.setCell ⟨w.heap.size + 1, 0, none⟩ (.int .i64 N)).setCell ⟨w.heap.size + 1, 1, none⟩ (.slice A' m' c')).heap[w.heap.size + 1]? = some (.cells #[.int .i64 N, .slice A' m' c'] 24 (0, 0)) := by
    unfold World.setCell
    simp only
    rw [Array.getElem?_modify, if_pos rfl, Array.getElem?_modify, if_pos rfl, h1]
    rfl
  refine ⟨A', m', c', ?_, ?_, ?_, ?_, ?_, ?_, ?_, ?_, _, rfl, ⟨hbel.os, hbel.tape, hbel.output, ?_, fun j hj hno => ?_⟩, ?_, fun b hb => by have := hblk b hb; omega⟩
  · unfold World.cell?; simp [h3]
  · unfold World.cell?; simp [h3]
  · unfold World.cell?; simp [h1]
  · unfold World.cell?; simp [h1]
  · unfold World.frozen?; simp [h1]
  · unfold World.frozen?; simp [h1]
  · unfold World.cell?; simp [hh]
  · unfold World.cell?; simp [hh]
  · rw [hz, hz]; exact hbel.size
  · rw [hs _ _ _ _ (by omega), hs _ _ _ _ (by omega)]; exact hbel.block j hj hno
  · rw [← hk]
    exact mut.own_mono hown fun b hb => by
      have := hblk b hb
      rw [hs _ _ _ _ (by omega), hs _ _ _ _ (by omega)]
set_option maxHeartbeats 4000000 in
set_option maxRecDepth 100000 in
theorem mut.walk (w : World) (N : Int) (es : List (Int × Int × Int × Unit)) (A : Option Addr) (c : Nat) (hes : es.length ≤ 100000) (hA : lvE w es A) :
    Calls Go.Proofs.Try.prog 21 #[.agg #[.int .i64 N, .slice A es.length c]] w fun e w' => MuPost w N es e w' := by
  have mixed := lea.mixed
  obtain ⟨n, hn⟩ : ∃ n, n = es.length := ⟨_, rfl⟩
  rw [← hn]
  have hnb : n ≤ 100000 := by omega
  have HN := lea_hid hn
  clear hn
  have hmk : ∀ W : World, (Instr.makeMap 58 none).run Go.Proofs.Try.prog W = .ok (.map (some W.heap.size)) (W.alloc (.map #[] 0)) := mut.make
  go_enter Go.Proofs.Try.func21, Go.Proofs.Try.ntmps21
  go_wp2
  go_loopw [13] (fun i wr => ∃ k : Nat, k ≤ n ∧ i = .int .i64 k ∧ MuI w N es A n c k wr) (fun i _ => n - (intOf i).toNat)
  case atStart => exact ⟨0, Nat.zero_le _, rfl, mut.start w N es A n c⟩
  case round =>
    obtain ⟨k, hk, rfl, hI⟩ := hrel
    by_cases hlt : k < n
    · obtain ⟨x, hx⟩ : ∃ x, es[k]? = some x := ⟨es[k]'(by have := HN.out; omega), List.getElem?_eq_getElem _⟩
      obtain ⟨x1, x2, x3, _⟩ := x
      obtain ⟨b, o, e', hb, c1, c2, c3⟩ := hA k _ hx
      subst e'
      simp only at c1 c2 c3
      have hsame : ∀ off, wr.cell? ⟨b, off, none⟩ = w.cell? ⟨b, off, none⟩ := fun off => cell_same (hI.1.block b hb (by omega))
      have d1 := (hsame _).trans c1
      have d2 := (hsame _).trans c2
      have d3 := (hsame _).trans c3
      obtain ⟨v, v0, st, W1, W2, hv, l1, l2, l3, l4, hI2⟩ := mut.round hx hI
      have HI2 := lea_hid hI2
      have hw1 : IntKind.i64.wrap ((v : Int) + 1) = (v : Int) + 1 := by rw [IntKind.wrap_i64]; omega
      clear hsame c1 c2 c3 hx hA hI HN hI2
      go_wp2
      go_region_o
      clear l1 l2 l3 l4 hw1 d1 d2 d3
      go_wp2
      refine ⟨?_, ?_⟩
      · first | exact ⟨k + 1, by omega, by go_num, HI2.out⟩ | exact ⟨_, _, _, _, _, _, _, _, _, _, _, _, _, _, _, _, ⟨k + 1, by omega, by go_num, HI2.out⟩, rfl⟩
      · simp [intOf]; omega
    · have e : k = n := by omega
      subst e
      obtain ⟨hbel, hsz, h1, h2, mes, clock, h3, hM⟩ := hI
      obtain ⟨f1, f2, f3, hst⟩ := mut.start2 (N := N) (A := A) (c := c) (mes := mes) (clock := clock) (es := es) hbel hsz h1 h2 h3
      have HM := lea_hid hM
      have HS := lea_hid hst
      have hq : w.heap.size + 2 < wr.heap.size := by omega
      obtain ⟨w6, hw6⟩ : ∃ w6, w6 = wr := ⟨_, rfl⟩
      rw [← hw6] at f1 f2 f3 HS hq ⊢
      clear hw6 hbel hsz h1 h2 h3 hM hst hmk
      go_wp2
      go_loopw [34] (fun i wr2 => ∃ j : Nat, j ≤ k ∧ i = .int .i64 j ∧ MuI2 w N es mes clock w6.heap.size j wr2) (fun i _ => k - (intOf i).toNat)
      case atStart => exact ⟨0, Nat.zero_le _, rfl, HS.out⟩
      case round =>
        obtain ⟨j, hj, rfl, hI⟩ := hrel
        by_cases hjl : j < k
        · obtain ⟨x, hx⟩ : ∃ x, es[j]? = some x := ⟨es[j]'(by have := HN.out; omega), List.getElem?_eq_getElem _⟩
          obtain ⟨x1, x2, x3, _⟩ := x
          obtain ⟨b, o, e', hb, c1, c2, c3⟩ := hA j _ hx
          subst e'
          simp only at c1 c2 c3
          have hsame : ∀ off, wr.cell? ⟨b, off, none⟩ = w.cell? ⟨b, off, none⟩ := fun off => cell_same (hI.1.block b hb (by omega))
          have d1 := (hsame _).trans c1
          have d2 := (hsame _).trans c2
          have d3 := (hsame _).trans c3
          obtain ⟨v, hv, hv0, l1⟩ := mut.look (B := w.heap.size + 2) HM.out x2 x1
          have l2 := l1 (wr.alloc (.cells #[.int .i64 x1, .int .i64 x2, .int .i64 x3] 44)) ((heap_alloc_old _ _ (by have := hI.2.1; omega)).trans hI.2.2.2.1)
          have htk : es.take k = es := List.take_of_length_le (by have := HN.out; omega)
          have hany : 0 < v ↔ (es.any fun y => decide (y.1 = x2 ∧ y.2.1 = x1)) = true := by
            rw [hv0, htk, List.any_eq_true]
            simp only [decide_eq_true_eq]
          by_cases hvp : 0 < v
          · obtain ⟨u, A', m', c', w', q1, q2, q3, q4, hI2⟩ := mut.app hes hq hx (hany.1 hvp) hI
            have HI2 := lea_hid hI2
            have hvi : (0 : Int) < (v : Int) := by omega
            clear hI2 hI hany htk l1 hv0 hsame c1 c2 c3 hx HS f1 f2 f3 hA hv
            go_wp2_with (at_builtin; refine Lib.wpList_append_run _ rfl _ _ _ _ rfl _ _ rfl rfl _ _ q2 ?_)
            clear q1 q2 q3 q4 l2 d1 d2 d3
            refine ⟨?_, ?_⟩
            · first | exact ⟨j + 1, by omega, by go_num, HI2.out⟩ | exact ⟨_, _, _, _, _, _, _, _, _, _, _, _, _, _, _, _, _, _, _, _, ⟨j + 1, by omega, by go_num, HI2.out⟩, rfl⟩
            · simp [intOf]; omega
          · have hf : (es.any fun y => decide (y.1 = x2 ∧ y.2.1 = x1)) = false := by
              cases h : es.any fun y => decide (y.1 = x2 ∧ y.2.1 = x1) with
              | false => rfl
              | true => exact absurd (hany.2 h) hvp
            have HI2 := lea_hid (mut.skip hq hx hf hI (.cells #[.int .i64 x1, .int .i64 x2, .int .i64 x3] 44))
            have hvi : v = 0 := by omega
            subst hvi
            clear hf hI hany htk l1 hv0 hsame c1 c2 c3 hx HS f1 f2 f3 hA hv hvp
            go_wp2
            clear l2 d1 d2 d3
            refine ⟨?_, ?_⟩
            · first | exact ⟨j + 1, by omega, by go_num, HI2.out⟩ | exact ⟨_, _, _, _, _, _, _, _, _, _, _, _, _, _, _, _, _, _, _, _, ⟨j + 1, by omega, by go_num, HI2.out⟩, rfl⟩
            · simp [intOf]; omega
        · have e : j = k := by omega
          subst e
          obtain ⟨A', m', c', g1, g2, g3, g4, g5, g6, k1, k2, hpost⟩ := mut.fin HN.out hq hI
          have HP := lea_hid hpost
          clear hI HS f1 f2 f3 hA hpost
          go_wp2
          refine bodyPost_ret (v := .agg #[.int .i64 N, .slice A' m' c']) (by simp [results, Go.Proofs.Try.results21, go_sem, k1, k2]) rfl HP.out
noncomputable def spf_Mutual.f (a : dens [.v ((.cons (.int .i64) (.cons (.sl 44 (.cons (.int .i64) (.cons (.int .i64) (.cons (.int .i64) .nil)))) .nil)))]) : Option (dens [.v ((.cons (.int .i64) (.cons (.sl 44 (.cons (.int .i64) (.cons (.int .i64) (.cons (.int .i64) .nil)))) .nil)))]) := spf_Mutual.q a
noncomputable def spf_Mutual.sp : Sp := ⟨[.v ((.cons (.int .i64) (.cons (.sl 44 (.cons (.int .i64) (.cons (.int .i64) (.cons (.int .i64) .nil)))) .nil)))], [.v ((.cons (.int .i64) (.cons (.sl 44 (.cons (.int .i64) (.cons (.int .i64) (.cons (.int .i64) .nil)))) .nil)))], spf_Mutual.f⟩
theorem mut.get3 : ∀ (xs : List (Int × Int × Int × Unit)) (i j : Nat) (hi : i < xs.length), j < 3 → (xs.map eC).flatten[i * 3 + j]? = (eC xs[i])[j]?
  | x :: xs, 0, j, _, hj => by
    rw [List.map_cons, List.flatten_cons, List.getElem?_append_left (by simp [eC]; omega)]
    simp
  | x :: xs, i + 1, j, hi, hj => by
    rw [List.map_cons, List.flatten_cons, List.getElem?_append_right (by simp [eC]; omega)]
    have e : (i + 1) * 3 + j - (eC x).length = i * 3 + j := by simp [eC]; omega
    rw [e, mut.get3 xs i j (by simpa using hi) hj]
    simp
theorem mut.en_row {w : World} {ok : Nat → Prop} {xs : List (Int × Int × Int × Unit)} {u : Value} (h : ownsR w 44 3 u xs.length (xs.map eC).flatten) (hok : ∀ b, blkOf u = some b → ok b) : En w ok (.sl 44 (.cons (.int .i64) (.cons (.int .i64) (.cons (.int .i64) .nil)))) xs [u] := by
  rcases h.2 with ⟨rfl, h0⟩ | ⟨q, o, cap, cur, rfl, _, hh, hn, hc, hroom, htk⟩
  · have : xs = [] := List.eq_nil_of_length_eq_zero h0
    subst this
    exact ⟨none, 0, rfl, Nat.le_refl _, fun i hi => absurd hi (Nat.not_lt_zero _)⟩
  · refine ⟨_, cap, rfl, hn, fun i hi => ⟨q, o, eC xs[i], rfl, hok q rfl, (mut.en [xs[i]]).1, fun j hj => ?_⟩⟩
    have hi' : i < xs.length := hi
    have hj' : j < 3 := by simpa [eC] using hj
    have h1 : ((cur.toList.drop o).take (xs.length * 3))[i * 3 + j]? = (xs.map eC).flatten[i * 3 + j]? := by rw [htk]
    rw [List.getElem?_take_of_lt (by omega), List.getElem?_drop, mut.get3 xs i j hi' hj', Array.getElem?_toList, List.getElem?_eq_getElem hj] at h1
    unfold World.cell?
    simp only [hh]
    rw [← h1]
    show (if _ then _ else cur[o + i * 3 + j]?) = _
    simp [Nat.add_assoc]
theorem spf_Mutual.sound : Sound Go.Proofs.Try.prog 21 spf_Mutual.sp := ⟨ent_of Go.Proofs.Try.func21 (by kernel_rfl) (by kernel_rfl), by
  intro x y hy w vs ok bs hok hargs hnd hdis
  obtain ⟨⟨N, es, _⟩, _⟩ := x
  obtain ⟨cs, rest, b1, b2, rfl, rfl, ⟨hen, rfl⟩, rfl, rfl⟩ := hargs
  obtain ⟨c1, c2, rfl, hc1, c3, c4, rfl, ⟨A, c, rfl, hcap, hel⟩, hc4⟩ := hen
  have hc1' : c1 = [.int .i64 N] := hc1
  have hc4' : c4 = [] := hc4
  subst hc1' hc4'
  have hy' : spf_Mutual.q ((N, es, ()), ()) = some y := hy
  unfold spf_Mutual.q at hy'
  dsimp only at hy'
  split at hy'
  rotate_left
  · cases hy'
  rename_i hl
  cases hy'
  have hE : lvE w es A := by
    intro i x hx
    obtain ⟨hi, rfl⟩ := List.getElem?_eq_some_iff.1 hx
    obtain ⟨k, o, cs, hA, hk, he, hcell⟩ := hel i hi
    have e : cs = eC es[i] := mut.en_eq he
    subst e
    exact ⟨k, o, hA, hok k hk, hcell 0 (by simp [eC]), hcell 1 (by simp [eC]), hcell 2 (by simp [eC])⟩
  have key := mut.walk w N es A c hl hE
  refine Calls.mono key ?_
  rintro e w' ⟨v, rfl, hbel, hown, hblk⟩
  have hF : muF es es.length = es.filter fun x => es.any fun y => decide (y.1 = x.2.1 ∧ y.2.1 = x.1) := by unfold muF; rw [List.take_length]
  rw [hF] at hown
  refine ⟨[.agg #[.int .i64 N, v]], [], fun j => ok j ∨ (w.heap.size ≤ j ∧ j < w'.heap.size), rfl, rfl, ⟨[.int .i64 N, v], [], [], [], rfl, rfl, ⟨?_, rfl⟩, rfl, rfl⟩, List.nodup_nil, fun b hb => (by cases hb), fun k hk => ⟨?_, ?_, fun hb => (by cases hb)⟩, ⟨hbel.os, hbel.tape, hbel.output, hbel.size, fun k hk hno => hbel.block k hk fun h => hno (.inr h)⟩⟩
  · exact ⟨[.int .i64 N], [v], rfl, rfl, [v], [], rfl, mut.en_row hown fun b hb => .inr ⟨hblk b hb, mut.own_lt hown hb⟩, rfl⟩
  · rcases hk with h | h
    · exact .inl h
    · exact .inr (.inr h.1)
  · rcases hk with h | h
    · exact Nat.lt_of_lt_of_le (hok k h) hbel.size
    · exact h.2, fun n h => (by
  have h' : (none : Option Nat) = some n := h
  cases h')⟩
end Go.Proofs.Ytaemcnabccgnbaa.F
