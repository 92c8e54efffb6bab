/- The pages of a list of entries: the calls, told by hand for the frame; by this project. -/
import Derived.Test.YtocloebloblodaagL
import Derived.Test.YtocloebloblodaaFrd
import Derived.RangeFuncBox
import Derived.RangeFuncLeaves
import Derived.RangeFuncNested
import Derived.RangeFuncCalls
import Derived.Shelf.Abstract
import Derived.Shelf.RegionOpen
import Derived.WalkKit
import Derived.OwnWalkIn
import Derived.TacticsInMore
import Derived.LoopNIn
import Derived.LoopIn
import Derived.Maps.AppendAt
namespace Go.Proofs.Ytocloebloblodaa.F
open Go Go.RowKit Go.Proofs Go.Proofs.Fr
set_option linter.unusedVariables false
set_option linter.unusedSimpArgs false
/-- All that lay in W0 lies as it lay. -/
def EnRd (W0 W : World) : Prop := BelowO (fun k => W0.heap.size ≤ k) W0 W
theorem EnRd.refl (W : World) : EnRd W W := ⟨rfl, rfl, rfl, Nat.le_refl _, fun _ _ _ => rfl⟩
theorem EnRd.trans {A B C : World} (h : EnRd A B) (k : BelowO (fun j => A.heap.size ≤ j) B C) : EnRd A C :=
  ⟨k.os.trans h.os, k.tape.trans h.tape, k.output.trans h.output, Nat.le_trans h.size k.size, fun j hj hn => (k.block j (Nat.lt_of_lt_of_le hj h.size) hn).trans (h.block j hj hn)⟩
theorem EnRd.alloc {A B : World} (h : EnRd A B) (o : Obj) : EnRd A (B.alloc o) := h.trans ⟨rfl, rfl, rfl, by simp, fun k hk _ => heap_alloc_old B o hk⟩
theorem EnRd.keeps {A B : World} (h : EnRd A B) : KeepsOthers A B := ⟨h.size, fun k o hk _ => by
  have hlt := (Array.getElem?_eq_some_iff.1 hk).1
  exact (h.block k hlt (by omega)).trans hk⟩
theorem EnRd.below {n : Nat} {A B : World} (hn : n ≤ A.heap.size) (h : EnRd A B) : Below n A B := ⟨h.os, h.tape, h.output, h.size, fun k hk => h.block k (by omega) (by omega)⟩
/-- The page at p holds these bytes. -/
def EnPg (W : World) (p : Nat) (xs : List Int) : Prop := ∃ v, W.heap[p]? = some (.cells #[v] 86 (0, 0)) ∧ ownsR W 5 1 v xs.length (xs.map (Value.int .u8)) ∧ ∀ b, blkOf v = some b → p < b
/-- The entry at q. -/
def EnEb (W : World) (q : Nat) (x : Int × Int × Int × Int × Unit) : Prop := W.heap[q]? = some (.cells #[.int .i64 x.1, .int .u64 x.2.1, .int .u32 x.2.2.1, .int .i64 x.2.2.2.1] 111 (0, 0))
theorem EnEb.c0 {W : World} {q : Nat} {x : Int × Int × Int × Int × Unit} (h : EnEb W q x) : W.cell? ⟨q, 0, none⟩ = some (.int .i64 x.1) := by unfold EnEb at h; simp [World.cell?, h]
theorem EnEb.c1 {W : World} {q : Nat} {x : Int × Int × Int × Int × Unit} (h : EnEb W q x) : W.cell? ⟨q, 1, none⟩ = some (.int .u64 x.2.1) := by unfold EnEb at h; simp [World.cell?, h]
theorem EnEb.c2 {W : World} {q : Nat} {x : Int × Int × Int × Int × Unit} (h : EnEb W q x) : W.cell? ⟨q, 2, none⟩ = some (.int .u32 x.2.2.1) := by unfold EnEb at h; simp [World.cell?, h]
theorem EnEb.c3 {W : World} {q : Nat} {x : Int × Int × Int × Int × Unit} (h : EnEb W q x) : W.cell? ⟨q, 3, none⟩ = some (.int .i64 x.2.2.2.1) := by unfold EnEb at h; simp [World.cell?, h]
theorem ent.own_mono {w w' : World} {e sz n : Nat} {xs : List Value} {u : Value} (h : ownsR w e sz u n xs) (hb : ∀ b, blkOf u = some b → w'.heap[b]? = w.heap[b]?) : ownsR w' e sz u n xs := by
  refine ⟨h.1, ?_⟩
  rcases h.2 with h2 | ⟨q, o, cap, cur, rfl, h0, hh, r⟩
  · exact .inl h2
  · exact .inr ⟨q, o, cap, cur, rfl, h0, (hb q rfl).trans hh, r⟩
theorem ent.own_lt {w : World} {e sz n : Nat} {xs : List Value} {u : Value} (h : ownsR w e sz u n xs) {b : Nat} (hb : blkOf u = some b) : ∃ cur, w.heap[b]? = some (.cells cur e (0, 0)) := by
  rcases h.2 with ⟨rfl, _⟩ | ⟨q, o, cap, cur, rfl, h0, hh, r⟩
  · cases hb
  · simp only [blkOf, Option.some.injEq] at hb
    subst hb
    exact ⟨_, hh⟩
theorem ent.flat (xs : List Int) : (xs.map fun x => [Value.int .u8 x]).flatten = xs.map (.int .u8) := by
  induction xs with
  | nil => rfl
  | cons x xs ih => rw [List.map_cons, List.flatten_cons, ih]; rfl
theorem ent.en {w : World} {ok : Nat → Prop} : ∀ (xs : List Int), All2 (En w ok (.int .u8)) xs (xs.map fun x => [Value.int .u8 x])
  | [] => trivial
  | x :: xs => ⟨rfl, ent.en xs⟩
theorem ent.un {w : World} {ok : Nat → Prop} : ∀ {xs : List Int} {css : List (List Value)}, All2 (En w ok (.int .u8)) xs css → css.flatten = xs.map (.int .u8)
  | [], [], _ => rfl
  | x :: xs, c :: css, h => by
    have h1 : c = [.int .u8 x] := h.1
    rw [List.flatten_cons, ent.un h.2, h1]
    rfl
  | [], _ :: _, h => h.elim
  | _ :: _, [], h => h.elim
theorem EnPg.mono {W W' : World} {p : Nat} {xs : List Int} (h : EnPg W p xs) (hk : ∀ k, k < W.heap.size → W'.heap[k]? = W.heap[k]?) : EnPg W' p xs := by
  obtain ⟨v, h1, h2, h3⟩ := h
  refine ⟨v, (hk p (Array.getElem?_eq_some_iff.1 h1).1).trans h1, ent.own_mono h2 fun b hb => ?_, h3⟩
  obtain ⟨cur, hc⟩ := ent.own_lt h2 hb
  exact hk b (Array.getElem?_eq_some_iff.1 hc).1
theorem EnEb.mono {W W' : World} {q : Nat} {x : Int × Int × Int × Int × Unit} (h : EnEb W q x) (hk : ∀ k, k < W.heap.size → W'.heap[k]? = W.heap[k]?) : EnEb W' q x :=
  (hk q (Array.getElem?_eq_some_iff.1 h).1).trans h
theorem ent.isIn (W0 : World) {W : World} {p q : Nat} {xs : List Int} {x : Int × Int × Int × Int × Unit} (n m : Int) (h0 : EnRd W0 W) (h1 : EnPg W p xs) (h2 : EnEb W q x) :
    Calls Go.Proofs.Try.prog 34 #[.int .i64 n, .int .i64 m] W fun e W' => e = .returned (.bool (decide (0 ≤ n ∧ n ≤ m))) ∧ EnRd W0 W' ∧ EnPg W' p xs ∧ EnEb W' q x := by
  refine Calls.mono ((Ytocloebloblodaag.F.pdu_isIn.sound).run (n, m, ()) (decide (0 ≤ n ∧ n ≤ m), ()) (Ytocloebloblodaag.F.isIn_f n m) W [.int .i64 n, .int .i64 m] (fun _ => False) [] (fun _ h => h.elim) ⟨[.int .i64 n], [.int .i64 m], [], [], rfl, rfl, ⟨rfl, rfl⟩, [.int .i64 m], [], [], [], rfl, rfl, ⟨rfl, rfl⟩, rfl, rfl⟩ List.nodup_nil (fun b hb => by cases hb)) ?_
  rintro e W' ⟨rs, bs', ok', rfl, hl, har, _, _, _, hbel⟩
  obtain ⟨c1, r1, b1, b2, hrs, _, ⟨hen, _⟩, hr1, _⟩ := har
  have hc1 : c1 = [.bool (decide (0 ≤ n ∧ n ≤ m))] := hen
  subst hc1 hr1
  have hrs' : rs = [.bool (decide (0 ≤ n ∧ n ≤ m))] := by
    cases rs with
    | nil => cases hl
    | cons r t =>
      cases t with
      | nil =>
        have h := congrArg List.head? hrs
        simpa [mkV, K.isAgg, Ty.isAgg] using h
      | cons _ _ => cases hl
  subst hrs'
  have hk : ∀ k, k < W.heap.size → W'.heap[k]? = W.heap[k]? := fun k hk => hbel.block k hk (by simp; omega)
  exact ⟨rfl, h0.trans ⟨hbel.os, hbel.tape, hbel.output, hbel.size, fun k h _ => hk k h⟩, h1.mono hk, h2.mono hk⟩
theorem ent.put (W0 : World) {W : World} {p q : Nat} {xs : List Int} {x : Int × Int × Int × Int × Unit} (n : Int) (m : Nat) (h0 : EnRd W0 W) (hp : W0.heap.size ≤ p) (h1 : EnPg W p xs) (h2 : EnEb W q x) (hpq : p ≠ q) (hn : 0 ≤ n ∧ n < 18446744073709551616) (hm : m ≤ 8) (hb : xs.length ≤ 1000000) :
    Calls Go.Proofs.Try.prog 36 #[.pointer (some ⟨p, 0, none⟩), .int .u64 n, .int .i64 (m : Int)] W fun e W' => e = .returned (.tuple #[]) ∧ EnRd W0 W' ∧ EnPg W' p (xs ++ Ytocloebloblodaag.F.be n m) ∧ EnEb W' q x := by
  obtain ⟨v, g1, g2, g3⟩ := h1
  have hbs : ∀ b, b ∈ (p :: (blkOf v).toList) → b = p ∨ blkOf v = some b := fun b hb => by
    rcases List.mem_cons.1 hb with h | h
    · exact .inl h
    · right; simpa using h
  have hnd : (p :: (blkOf v).toList).Nodup := by
    cases hv : blkOf v with
    | none => simp
    | some b => have := g3 b hv; simp; omega
  refine Calls.mono ((Ytocloebloblodaag.F.pdu_page_put.sound).run (xs, n, (m : Int), ()) (xs ++ Ytocloebloblodaag.F.be n m, ()) (Ytocloebloblodaag.F.put_f xs n m hn hm hb) W [.pointer (some ⟨p, 0, none⟩), .int .u64 n, .int .i64 (m : Int)] (fun _ => False) (p :: (blkOf v).toList) (fun _ h => h.elim)
    ⟨[.pointer (some ⟨p, 0, none⟩)], [.int .u64 n, .int .i64 (m : Int)], p :: (blkOf v).toList, [], rfl, by simp, ⟨p, #[v], (blkOf v).toList, rfl, g1, ⟨v, rfl, ⟨xs.map fun x => [.int .u8 x], ent.en xs, by rw [ent.flat]; exact g2⟩, rfl⟩, rfl⟩, [.int .u64 n], [.int .i64 (m : Int)], [], [], rfl, rfl, ⟨rfl, rfl⟩, [.int .i64 (m : Int)], [], [], [], rfl, rfl, ⟨rfl, rfl⟩, rfl, rfl⟩ hnd (fun b _ h => h)) ?_
  rintro e W' ⟨rs, bs', ok', rfl, hl, har, hnd', hbs', _, hbel⟩
  have hrs : rs = [] := List.eq_nil_of_length_eq_zero hl
  subst hrs
  obtain ⟨c1, r1, b1, b2, hrs, hbe, hcr, hr1, hb2⟩ := har
  obtain ⟨kb, arr, b3, hc1, hkb, ⟨v', ha, ⟨css, hal, how⟩, hb3⟩, hb1⟩ := hcr
  subst hc1 hr1 hb2 hb1 hb3
  have hkp : kb = p := by
    have h := congrArg List.head? hrs
    simp [mkV, K.isAgg, lvA, lvC, argC, Ytocloebloblodaag.F.pdu_page_put.sp] at h
    exact h.symm
  subst hkp
  have harr : arr = #[v'] := by
    apply Array.ext'
    exact ha
  subst harr
  have hxs : css.flatten = (xs ++ Ytocloebloblodaag.F.be n m).map (Value.int .u8) := ent.un (w := W') (ok := ok') hal
  rw [hxs] at how
  have hnb : ∀ b, blkOf v = some b → kb < b := g3
  have hv' : ∀ b, blkOf v' = some b → kb < b := by
    intro b hb
    have hmem : b ∈ bs' := by rw [hbe, hb]; simp
    have hne : b ≠ kb := fun e => by
      subst e
      rw [hbe, hb] at hnd'
      simp at hnd'
    rcases hbs' b hmem with h | h
    · rcases hbs b h with h | h
      · exact absurd h hne
      · exact g3 b h
    · have := (Array.getElem?_eq_some_iff.1 g1).1
      omega
  have hkeep : ∀ k, k < W.heap.size → k ≠ kb → blkOf v ≠ some k → W'.heap[k]? = W.heap[k]? := fun k hk h1 h2 => hbel.block k hk fun h => by
    rcases h with h | h
    · rcases hbs k h with h | h
      · exact h1 h
      · exact h2 h
    · omega
  refine ⟨rfl, h0.trans ⟨hbel.os, hbel.tape, hbel.output, hbel.size, fun k hk hno => hkeep k hk (by omega) fun h => by have := g3 k h; omega⟩, ⟨v', hkb, how, hv'⟩, ?_⟩
  refine (hkeep q (Array.getElem?_eq_some_iff.1 h2).1 (fun e => hpq e.symm) fun h => ?_).trans h2
  obtain ⟨cur, hc⟩ := ent.own_lt g2 h
  have h2' : W.heap[q]? = _ := h2
  rw [h2'] at hc
  simp at hc
theorem ent.isInB (W0 : World) {W : World} {p q : Nat} {xs : List Int} {x : Int × Int × Int × Int × Unit} (n m : Int) {r : Bool} (hr : decide (0 ≤ n ∧ n ≤ m) = r) (h0 : EnRd W0 W) (h1 : EnPg W p xs) (h2 : EnEb W q x) :
    Calls Go.Proofs.Try.prog 34 #[.int .i64 n, .int .i64 m] W fun e W' => e = .returned (.bool r) ∧ EnRd W0 W' ∧ EnPg W' p xs ∧ EnEb W' q x := hr ▸ ent.isIn W0 n m h0 h1 h2
theorem ent.putM (W0 : World) {W : World} {p q : Nat} {xs : List Int} {x : Int × Int × Int × Int × Unit} (n mi : Int) {m : Nat} (hmi : mi = (m : Int)) (h0 : EnRd W0 W) (hp : W0.heap.size ≤ p) (h1 : EnPg W p xs) (h2 : EnEb W q x) (hpq : p ≠ q) (hn : 0 ≤ n ∧ n < 18446744073709551616) (hm : m ≤ 8) (hb : xs.length ≤ 1000000) :
    Calls Go.Proofs.Try.prog 36 #[.pointer (some ⟨p, 0, none⟩), .int .u64 n, .int .i64 mi] W fun e W' => e = .returned (.tuple #[]) ∧ EnRd W0 W' ∧ EnPg W' p (xs ++ Ytocloebloblodaag.F.be n m) ∧ EnEb W' q x := by
  subst hmi
  exact ent.put W0 n m h0 hp h1 h2 hpq hn hm hb
end Go.Proofs.Ytocloebloblodaa.F
