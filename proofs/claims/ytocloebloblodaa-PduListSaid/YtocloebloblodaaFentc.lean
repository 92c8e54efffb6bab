/- The pages of a list of entries, told by hand for the frame; by this project. -/
import Derived.Test.YtocloebloblodaaFentb
namespace Go.Proofs.Ytocloebloblodaa.F
open Go Go.RowKit Go.Proofs Go.Proofs.Fr Go.Shelf
set_option linter.unusedVariables false
set_option linter.unusedSimpArgs false
attribute [local go_sem] Oper.semAt_some
abbrev EnT := Int × Int × Int × Int × Unit
def enFit (x : EnT) : Bool := decide (0 ≤ x.1 ∧ x.1 ≤ 65535 ∧ 0 ≤ x.2.2.2.1 ∧ x.2.2.2.1 ≤ 65535)
def enB (x : EnT) : List Int := Ytocloebloblodaag.F.be x.1 2 ++ Ytocloebloblodaag.F.be x.2.1 8 ++ Ytocloebloblodaag.F.be x.2.2.1 4 ++ Ytocloebloblodaag.F.be x.2.2.2.1 2
theorem enB_len (x : EnT) : (enB x).length = 16 := by simp [enB, Ytocloebloblodaag.F.be_length]
def enBs (l : List EnT) : List Int := l.flatMap enB
theorem enBs_len (l : List EnT) : (enBs l).length = 16 * l.length := by
  induction l with
  | nil => rfl
  | cons x l ih => show (enB x ++ enBs l).length = _; rw [List.length_append, enB_len, ih, List.length_cons]; omega
theorem enBs_snoc (l : List EnT) (x : EnT) : enBs (l ++ [x]) = enBs l ++ enB x := by simp [enBs]
/-- A chunk's entries. -/
def enRow (es : List EnT) (k : Nat) : List EnT := (es.drop (15 * k)).take 15
/-- The numbers are in their ranges. -/
def enWf (x : EnT) : Prop := (0 ≤ x.2.1 ∧ x.2.1 < 18446744073709551616) ∧ 0 ≤ x.2.2.1 ∧ x.2.2.1 < 4294967296
/-- The entries' cells. -/
def enE (w : World) (es : List EnT) (b o : Nat) : Prop :=
  ∀ (i : Nat) x, es[i]? = some x → w.cell? ⟨b, o + i * 4, none⟩ = some (.int .i64 x.1) ∧ w.cell? ⟨b, o + i * 4 + 1, none⟩ = some (.int .u64 x.2.1) ∧ w.cell? ⟨b, o + i * 4 + 2, none⟩ = some (.int .u32 x.2.2.1) ∧ w.cell? ⟨b, o + i * 4 + 3, none⟩ = some (.int .i64 x.2.2.2.1)
/-- The rows of bytes that the things hold. -/
def enUs (W : World) (n₀ : Nat) (es : List EnT) : List (EnC es.length) → List Value → Prop := All2 fun x u => ownsR W 5 1 u (enBs (enRow es x.1)).length ((enBs (enRow es x.1)).map (Value.int .u8)) ∧ ∀ b, blkOf u = some b → n₀ ≤ b
def EnI (w : World) (es : List EnT) (pre : List (EnC es.length)) (W : World) : Prop :=
  Boxed W w.heap.size 27 (.slice none 0 0) ∧ Boxed W (w.heap.size + 1) 30 (.int .i64 0) ∧ (∀ x ∈ pre, (enRow es x.1).all enFit = true) ∧ Below w.heap.size w W ∧ w.heap.size + 5 ≤ W.heap.size ∧
    ∃ v us, Boxed W (w.heap.size + 2) 24 v ∧ W.ownsRow (w.heap.size + 5) 78 2 v pre.length (us.flatMap fun u => [.int .i64 9, u]) ∧ enUs W w.heap.size es pre us
def EnX (w : World) (es : List EnT) (c : Code) (pre : List (EnC es.length)) (W : World) : Prop :=
  c = .ret ∧ Boxed W w.heap.size 27 (.slice none 0 0) ∧ Boxed W (w.heap.size + 1) 30 (.int .i64 1) ∧ es.all enFit = false ∧ Below w.heap.size w W
theorem enUs.mono {W W' : World} {n₀ : Nat} {es : List EnT} (hk : ∀ (k : Nat) (cur : Array Value), W.heap[k]? = some (Obj.cells cur 5 (0, 0)) → W'.heap[k]? = W.heap[k]?) {pre : List (EnC es.length)} {us : List Value} (h : enUs W n₀ es pre us) : enUs W' n₀ es pre us :=
  All2.mono (fun a u ⟨h1, h2⟩ => ⟨ent.own_mono h1 fun b hb => by obtain ⟨cur, hc⟩ := ent.own_lt h1 hb; exact hk b cur hc, h2⟩) h
theorem EnI.own (w : World) (es : List EnT) (B : Nat) (hB : w.heap.size ≤ B) : OwnFrom B (EnI w es) := by
  rintro pre W W' row ⟨h1, h2, h3, h4, h8, v, us, h5, h6, h7⟩ hg hr
  have hb : ∀ (k : Nat) (o : Obj), W.heap[k]? = some o → o.isCells = true → W'.heap[k]? = W.heap[k]? := fun k o hk ho => hg.block k (Array.getElem?_eq_some_iff.1 hk).1 fun e => by
    obtain ⟨_, o', ho', hc⟩ := hr k e.symm
    rw [hk] at ho'
    cases ho'
    rw [ho] at hc
    cases hc
  refine ⟨(hb _ _ h1 rfl).trans h1, (hb _ _ h2 rfl).trans h2, h3, h4.grown hg h4.size fun k e => Nat.le_trans hB (hr k e).1, Nat.le_trans h8 hg.size, v, us, (hb _ _ h5 rfl).trans h5, h6.kept hg ?_, enUs.mono (fun k cur hk => hb k _ hk rfl) h7⟩
  rcases h6.2 with ⟨rfl, _⟩ | ⟨g, cap, cur, rfl, _, hgb, _⟩
  · exact .inl rfl
  · refine .inr fun e => ?_
    obtain ⟨_, o', ho', hc⟩ := hr g (by simpa [Value.ownBlock] using e.symm)
    rw [hgb] at ho'
    cases ho'
    cases hc
theorem EnX.own (w : World) (es : List EnT) (B : Nat) (hB : w.heap.size ≤ B) (c : Code) : OwnFrom B (EnX w es c) := by
  rintro pre W W' row ⟨h0, h1, h2, h3, h4⟩ hg hr
  have hb : ∀ (k : Nat) (o : Obj), W.heap[k]? = some o → o.isCells = true → W'.heap[k]? = W.heap[k]? := fun k o hk ho => hg.block k (Array.getElem?_eq_some_iff.1 hk).1 fun e => by
    obtain ⟨_, o', ho', hc⟩ := hr k e.symm
    rw [hk] at ho'
    cases ho'
    rw [ho] at hc
    cases hc
  exact ⟨h0, (hb _ _ h1 rfl).trans h1, (hb _ _ h2 rfl).trans h2, h3, h4.grown hg h4.size fun k e => Nat.le_trans hB (hr k e).1⟩
theorem enRow_len {es : List EnT} (x : EnC es.length) : (enRow es x.1).length = min 15 (es.length - 15 * x.1) := by
  unfold enRow
  rw [List.length_take, List.length_drop]
theorem enRow_get {es : List EnT} (j k : Nat) (hk : k < 15) : (enRow es j)[k]? = es[15 * j + k]? := by
  unfold enRow
  rw [List.getElem?_take_of_lt hk, List.getElem?_drop]
theorem EnRd.bx {A B : World} (h : EnRd A B) {k t : Nat} {v : Value} (hb : Boxed A k t v) : Boxed B k t v := by
  have hlt := hb.lt
  exact (h.block k hlt (by omega)).trans hb
/-- Ahead of an entry of a chunk. -/
def EnJ (W : World) (l : List EnT) (k : Nat) (wr : World) : Prop := EnRd W wr ∧ EnPg wr W.heap.size (enBs (l.take k)) ∧ (l.take k).all enFit = true
theorem EnJ.start (W : World) (l : List EnT) : EnJ W l 0 (W.alloc (.cells #[.slice none 0 0] 86)) :=
  ⟨(EnRd.refl W).alloc _, ⟨.slice none 0 0, heap_alloc_new W _, ownsR_nil _ _ _, fun b hb => by cases hb⟩, rfl⟩
theorem EnPg.alloc {W : World} {p : Nat} {xs : List Int} (h : EnPg W p xs) (o : Obj) : EnPg (W.alloc o) p xs := h.mono fun k hk => heap_alloc_old W o hk
theorem EnEb.new (W : World) (x : EnT) : EnEb (W.alloc (.cells #[.int .i64 x.1, .int .u64 x.2.1, .int .u32 x.2.2.1, .int .i64 x.2.2.2.1] 111)) W.heap.size x := heap_alloc_new W _
theorem EnRd.tr {A B C : World} (h : EnRd A B) (k : EnRd B C) : EnRd A C := h.trans ⟨k.os, k.tape, k.output, k.size, fun j hj _ => k.block j hj (by omega)⟩
theorem EnRd.row {A B : World} (h : EnRd A B) {base e size k : Nat} {v : Value} {xs : List Value} (hr : A.ownsRow base e size v k xs) : B.ownsRow base e size v k xs := by
  refine ⟨hr.1, ?_⟩
  rcases hr.2 with h2 | ⟨g, cap, cur, h1, h2, h3, h4⟩
  · exact .inl h2
  · have hlt := (Array.getElem?_eq_some_iff.1 h3).1
    exact .inr ⟨g, cap, cur, h1, h2, (h.block g hlt (by omega)).trans h3, h4⟩
theorem EnRd.push {A B : World} {o : Obj} (h : B.heap = A.heap.push o) (h1 : B.os = A.os) (h2 : B.tape = A.tape) (h3 : B.output = A.output) : EnRd A B :=
  ⟨h1, h2, h3, by rw [h]; simp, fun k hk _ => by rw [h, Array.getElem?_push, if_neg (by omega)]⟩
theorem ent.all2 {α β : Type} {R : α → β → Prop} {b : β} {a : α} (hb : R a b) {xs : List α} {ys : List β} (h : All2 R xs ys) : All2 R (xs ++ [a]) (ys ++ [b]) := h.app ⟨hb, trivial⟩
end Go.Proofs.Ytocloebloblodaa.F
