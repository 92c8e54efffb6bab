/- nbr.Step, walked by hand: what it makes (closures in a map) is its own. Written for the frame; by this project. -/
import Derived.Test.YtldhdedlhfafjaaProg
import Derived.Below
import Derived.Deep.Draws
import Derived.Deep.AppendLies
import Derived.Maps.AppendAt
import Derived.OwnWalk
import Derived.Laws.BytesArg
import Derived.Laws.MakeOwn
import Derived.Laws.OwnMore
import Derived.Deep.OwnRows
import Derived.Tactics
import Derived.Lib.ConvBytes
import Derived.Laws.Slices
import Derived.WalkKit
import Derived.KernelRfl
import Derived.RowKit3
import Derived.Deep.LoopGhost
import Derived.Deep.QuietTactic
import Derived.BigQuiet
import Derived.WideLaws
import Derived.Laws.Rows
import Derived.RowKit
import Derived.WideMake
import Derived.Sort.AtCall
import Derived.MapKept
namespace Go.Proofs.Ytldhdedlhfafjaa.T
open Go Go.RowKit
set_option linter.unusedVariables false
set_option linter.unusedSimpArgs false
theorem below_alloc {w W : World} (h : Below w.heap.size w W) (o : Obj) : Below w.heap.size w (W.alloc o) := h.alloc h.size o
theorem pw_below_drewN {B : Nat} {w W : World} (h : Below B w W) (n : Nat) : Below B w (W.drewN n) := ⟨h.os, h.tape, h.output, h.size, h.block⟩
theorem below_drew1 {base : Nat} {w W : World} (h : Below base w W) : Below base w W.drew := h.drew
theorem run_put (P : Program) (w : World) (mty kt et : TypeId) (r clock : Nat) (n : Int) (val : Value) (es : Array MapEntry) (hm : P.underlying mty = some (.map kt et)) (hk : P.underlying kt = some (.int .i64)) (hb : w.heap[r]? = some (.map es clock))
    (hf : Instr.findNow (.int .i64) (.int .i64 n) es.toList 0 = some none) :
    (Instr.mapUpdate mty (.map (some r)) (.int .i64 n) val).run P w = .ok () { w with heap := w.heap.setIfInBounds r (.map (es.push { key := .int .i64 n, val := val, born := clock }) (clock + 1)) } := by
  have hc : (Instr.checkKey false 10000 kt (.int .i64 n)).run P w = .ok () w := MapKept.run_checkKey (k := .int .i64 n) hk (by simp [MapKept.IsKey]) false 9999
  simp [Instr.mapUpdate, run_underlying hm, MapKept.run_getObj_map hb, hc, MapKept.run_findKey hk hf, MapKept.run_setObj_map _ hb, Result.andThen]

theorem set_last (w : World) (o x : Obj) : ({ w.alloc o with heap := (w.alloc o).heap.setIfInBounds w.heap.size x } : World) = w.alloc x := by
  have : (w.heap.push o).setIfInBounds w.heap.size x = w.heap.push x := by
    apply Array.ext_getElem?
    intro i
    rw [Array.getElem?_setIfInBounds, Array.getElem?_push, Array.getElem?_push, Array.size_push]
    by_cases h : w.heap.size = i
    · subst h; simp
    · rw [if_neg h, if_neg (fun e => h e.symm), if_neg (fun e => h e.symm)]
  show ({ w with heap := (w.heap.push o).setIfInBounds w.heap.size x } : World) = { w with heap := w.heap.push x }
  rw [this]
theorem set_before (w : World) (o x : Obj) (g : Nat) (h : g < w.heap.size) : ({ w.alloc o with heap := (w.alloc o).heap.setIfInBounds g x } : World) = World.alloc { w with heap := w.heap.setIfInBounds g x } o := by
  have : (w.heap.push o).setIfInBounds g x = (w.heap.setIfInBounds g x).push o := by
    apply Array.ext_getElem?
    intro i
    rw [Array.getElem?_setIfInBounds, Array.getElem?_push, Array.getElem?_push, Array.getElem?_setIfInBounds]
    simp only [Array.size_setIfInBounds, Array.size_push]
    repeat' split
    all_goals first | rfl | omega | simp_all
  show ({ w with heap := (w.heap.push o).setIfInBounds g x } : World) = { w with heap := (w.heap.setIfInBounds g x).push o }
  rw [this]
/-- A map block at g, laid bare: its update in a world is that world with the map turned. -/
def Turn (w : World) (g : Nat) (es : Array MapEntry) (c : Nat) (x : Obj) (w' : World) : Prop := g < w.heap.size ∧ w.heap[g]? = some (.map es c) ∧ ({ w with heap := w.heap.setIfInBounds g x } : World) = w'
theorem turn_last (w : World) (es : Array MapEntry) (c : Nat) (x : Obj) : Turn (w.alloc (.map es c)) w.heap.size es c x (w.alloc x) := by
  refine ⟨?_, ?_, set_last w _ x⟩
  · show w.heap.size < (w.heap.push _).size
    rw [Array.size_push]; omega
  · show (w.heap.push _)[w.heap.size]? = _
    rw [Array.getElem?_push, if_pos rfl]
theorem Turn.on {w w' : World} {g c : Nat} {es : Array MapEntry} {x : Obj} (h : Turn w g es c x w') (o : Obj) : Turn (w.alloc o) g es c x (w'.alloc o) := by
  obtain ⟨h1, h2, h3⟩ := h
  refine ⟨?_, ?_, ?_⟩
  · show g < (w.heap.push _).size
    rw [Array.size_push]; omega
  · show (w.heap.push _)[g]? = _
    rw [Array.getElem?_push, if_neg (by omega)]; exact h2
  · rw [set_before _ _ _ _ h1, h3]
theorem Turn.run {w w' : World} {g c : Nat} {es : Array MapEntry} {n : Int} {val : Value} (h : Turn w g es c (.map (es.push { key := .int .i64 n, val := val, born := c }) (c + 1)) w') (hf : Instr.findNow (.int .i64) (.int .i64 n) es.toList 0 = some none) :
    (Instr.mapUpdate 42 (.map (some g)) (.int .i64 n) val).run Go.Proofs.Try.prog w = .ok () w' := by
  rw [run_put Go.Proofs.Try.prog w 42 _ _ g c n val es Go.Proofs.Try.underlying42 Go.Proofs.Try.underlying3 h.2.1 hf, h.2.2]
theorem sz (w : World) (o : Obj) : (w.alloc o).heap.size = w.heap.size + 1 := Array.size_push ..
def Bx (w : World) (g : Nat) (v : Int) : Prop := w.heap[g]? = some (.cells #[.int .i64 v] 3)
def B3 (w : World) (g : Nat) (a b c : Int) : Prop := Bx w g a ∧ Bx w (g + 1) b ∧ Bx w (g + 2) c
theorem B3.lt {w : World} {g : Nat} {a b c : Int} (h : B3 w g a b c) : g + 2 < w.heap.size := by
  have := h.2.2; unfold Bx at this
  exact (Array.getElem?_eq_some_iff.1 this).1
theorem B3.keep {w w' : World} {g : Nat} {a b c : Int} (h : B3 w g a b c) (k : Below w.heap.size w w') : B3 w' g a b c := by
  have := h.lt
  exact ⟨(k.block _ (by omega)).trans h.1, (k.block _ (by omega)).trans h.2.1, (k.block _ (by omega)).trans h.2.2⟩
theorem B3.other {w w' : World} {m g : Nat} {a b c : Int} (h : B3 w g a b c) (k : ∀ b, b ≠ m → w'.heap[b]? = w.heap[b]?) (h0 : g ≠ m) (h1 : g + 1 ≠ m) (h2 : g + 2 ≠ m) : B3 w' g a b c :=
  ⟨(k _ h0).trans h.1, (k _ h1).trans h.2.1, (k _ h2).trans h.2.2⟩
theorem put_fact (W : World) (g c : Nat) (es : Array MapEntry) (n : Int) (val : Value) (hM : W.heap[g]? = some (.map es c)) (hf : Instr.findNow (.int .i64) (.int .i64 n) es.toList 0 = some none) :
    ∃ W1 : World, (Instr.mapUpdate 42 (.map (some g)) (.int .i64 n) val).run Go.Proofs.Try.prog W = .ok () W1 ∧ W1.heap[g]? = some (.map (es.push { key := .int .i64 n, val := val, born := c }) (c + 1)) ∧ W1.heap.size = W.heap.size ∧ (∀ b, b ≠ g → W1.heap[b]? = W.heap[b]?) ∧ Below g W W1 := by
  have hg : g < W.heap.size := (Array.getElem?_eq_some_iff.1 hM).1
  refine ⟨_, run_put Go.Proofs.Try.prog W 42 _ _ g c n val es Go.Proofs.Try.underlying42 Go.Proofs.Try.underlying3 hM hf, ?_, ?_, ?_, ?_⟩
  · show (W.heap.setIfInBounds g _)[g]? = _
    rw [Array.getElem?_setIfInBounds]; simp [hg]
  · show (W.heap.setIfInBounds g _).size = _
    simp
  · intro b hb
    show (W.heap.setIfInBounds g _)[b]? = _
    rw [Array.getElem?_setIfInBounds, if_neg (fun h => hb h.symm)]
  · refine ⟨rfl, rfl, rfl, ?_, ?_⟩
    · show _ ≤ (W.heap.setIfInBounds g _).size
      simp
    · intro b hb
      show (W.heap.setIfInBounds g _)[b]? = _
      rw [Array.getElem?_setIfInBounds, if_neg (by omega)]
theorem three (h : Array Obj) (x y z : Obj) : (((h.push x).push y).push z)[h.size]? = some x ∧ (((h.push x).push y).push z)[h.size + 1]? = some y ∧ (((h.push x).push y).push z)[h.size + 2]? = some z := by
  refine ⟨?_, ?_, ?_⟩
  · rw [Array.getElem?_push, if_neg (by simp only [Array.size_push]; omega), Array.getElem?_push, if_neg (by simp only [Array.size_push]; omega), Array.getElem?_push, if_pos rfl]
  · rw [Array.getElem?_push, if_neg (by simp only [Array.size_push]; omega), Array.getElem?_push, if_pos (by simp only [Array.size_push])]
  · rw [Array.getElem?_push, if_pos (by simp only [Array.size_push])]
def clo (f g : Nat) : Value := .func (.func f) #[] #[.pointer (some ⟨g, 0, none⟩), .pointer (some ⟨g + 1, 0, none⟩), .pointer (some ⟨g + 2, 0, none⟩)]
set_option maxHeartbeats 4000000 in
theorem from_ (a b c : Int) (w : World) : Calls Go.Proofs.Try.prog 19 #[.int .i64 a, .int .i64 b, .int .i64 c] w fun e w' => e = .returned (clo 25 w.heap.size) ∧ w'.heap.size = w.heap.size + 3 ∧ B3 w' w.heap.size a b c ∧ Below w.heap.size w w' := by
  have hmf : ∀ (fn : Fn) (first cap : Array Value) (w : World), (Instr.makeFunc fn first cap).run Go.Proofs.Try.prog w = .ok (.func fn first cap) w := fun _ _ _ _ => rfl
  go_enter Go.Proofs.Try.func19, Go.Proofs.Try.ntmps19
  go_wp2
  go_ret
  refine ⟨rfl, by simp only [sz], three _ _ _ _, ((((Below.refl _ _).alloc (Nat.le_refl _) _).alloc (by simp only [sz]; omega) _).alloc (by simp only [sz]; omega) _)⟩
set_option maxHeartbeats 4000000 in
theorem only_ (a b c : Int) (w : World) : Calls Go.Proofs.Try.prog 23 #[.int .i64 a, .int .i64 b, .int .i64 c] w fun e w' => e = .returned (clo 26 w.heap.size) ∧ w'.heap.size = w.heap.size + 3 ∧ B3 w' w.heap.size a b c ∧ Below w.heap.size w w' := by
  have hmf : ∀ (fn : Fn) (first cap : Array Value) (w : World), (Instr.makeFunc fn first cap).run Go.Proofs.Try.prog w = .ok (.func fn first cap) w := fun _ _ _ _ => rfl
  go_enter Go.Proofs.Try.func23, Go.Proofs.Try.ntmps23
  go_wp2
  go_ret
  refine ⟨rfl, by simp only [sz], three _ _ _ _, ((((Below.refl _ _).alloc (Nat.le_refl _) _).alloc (by simp only [sz]; omega) _).alloc (by simp only [sz]; omega) _)⟩
def es13 (s : Nat) : Array MapEntry := #[{ key := .int .i64 0, val := (.func (.func 20) #[] #[]), born := 0 }, { key := .int .i64 1, val := (.func (.func 21) #[] #[]), born := 1 }, { key := .int .i64 2, val := (clo 25 (s + 7)), born := 2 }, { key := .int .i64 3, val := (.func (.func 22) #[] #[]), born := 3 }, { key := .int .i64 4, val := (.func (.func 22) #[] #[]), born := 4 }, { key := .int .i64 5, val := (clo 26 (s + 10)), born := 5 }, { key := .int .i64 6, val := (.func (.func 24) #[] #[]), born := 6 }, { key := .int .i64 7, val := (clo 26 (s + 13)), born := 7 }, { key := .int .i64 8, val := (clo 25 (s + 3)), born := 8 }, { key := .int .i64 9, val := (clo 25 (s + 3)), born := 9 }, { key := .int .i64 10, val := (clo 25 s), born := 10 }, { key := .int .i64 11, val := (clo 25 s), born := 11 }, { key := .int .i64 12, val := (clo 25 s), born := 12 }]
set_option maxHeartbeats 8000000 in
theorem steps_ (w : World) : Calls Go.Proofs.Try.prog 17 #[] w fun e w' => e = .returned (.map (some (w.heap.size + 6))) ∧ w'.heap[w.heap.size + 6]? = some (.map (es13 w.heap.size) 13) ∧ B3 w' w.heap.size 0 0 16 ∧ B3 w' (w.heap.size + 3) 4 3 18 ∧ B3 w' (w.heap.size + 7) 2 1 16 ∧ B3 w' (w.heap.size + 10) 3 4 4 ∧ B3 w' (w.heap.size + 13) 5 6 0 ∧ Below w.heap.size w w' := by
  have hmm := @run_makeMap Go.Proofs.Try.prog
  go_enter Go.Proofs.Try.func17, Go.Proofs.Try.ntmps17
  go_wp2_with (first | (go_at_call 19; refine (from_ 0 0 16 _).mono ?_; rintro e w1 ⟨rfl, z1, d1, b1⟩) | (go_at_call 19; refine (from_ 4 3 18 _).mono ?_; rintro e w2 ⟨rfl, z2, a2, b2⟩))
  obtain ⟨x0, hx0⟩ : ∃ x, x = w2.alloc (.map #[] 0) := ⟨_, rfl⟩
  have zx0 : x0.heap.size = w.heap.size + 7 := by rw [hx0]; simp only [sz, z2, z1]
  have mx0 : x0.heap[w.heap.size + 3 + 3]? = some (.map #[] 0) := by rw [hx0]; show (w2.heap.push _)[_]? = _; rw [Array.getElem?_push, if_pos (by rw [z2, z1])]
  have bx0 : Below w.heap.size w x0 := by rw [hx0]; exact (b1.trans (b2.mono (by omega))).alloc (by omega) _
  have ba_ : Below w2.heap.size w2 x0 := by rw [hx0]; exact (Below.refl _ _).alloc (Nat.le_refl _) _
  have dx0 := (d1.keep b2).keep ba_
  rw [z1] at a2
  have ax0 := a2.keep ba_
  rw [← hx0]
  clear ba_ hx0 d1 a2 b1 b2 z1 z2
  obtain ⟨v0, r_, mv0, z_, k_, b_⟩ := put_fact x0 (w.heap.size + 3 + 3) 0 _ 0 (.func (.func 20) #[] #[]) mx0 rfl
  rw [r_]
  have zv0 := z_.trans zx0
  have bv0 := bx0.trans (b_.mono (by omega))
  have dv0 := dx0.other k_ (by omega) (by omega) (by omega)
  have av0 := ax0.other k_ (by omega) (by omega) (by omega)
  clear r_ z_ k_ b_ mx0 zx0 bx0 dx0 ax0
  go_wp2
  obtain ⟨v1, r_, mv1, z_, k_, b_⟩ := put_fact v0 (w.heap.size + 3 + 3) 1 _ 1 (.func (.func 21) #[] #[]) mv0 rfl
  rw [r_]
  have zv1 := z_.trans zv0
  have bv1 := bv0.trans (b_.mono (by omega))
  have dv1 := dv0.other k_ (by omega) (by omega) (by omega)
  have av1 := av0.other k_ (by omega) (by omega) (by omega)
  clear r_ z_ k_ b_ mv0 zv0 bv0 dv0 av0
  go_wp2_with (first | (go_at_call 19; refine (from_ 2 1 16 _).mono ?_; rintro e y2 ⟨rfl, zy, ty2, by_⟩))
  have zy2 : y2.heap.size = w.heap.size + 10 := by rw [zy, zv1]
  have my2 := (by_.block _ (by omega)).trans mv1
  have dy2 := dv1.keep by_
  have ay2 := av1.keep by_
  rw [zv1] at ty2
  have uy2 := ty2
  have by2 := bv1.trans (by_.mono (by omega))
  clear zy by_ ty2 mv1 zv1 bv1 dv1 av1
  obtain ⟨v2, r_, mv2, z_, k_, b_⟩ := put_fact y2 (w.heap.size + 3 + 3) 2 _ 2 (clo 25 (w.heap.size + 7)) my2 rfl
  rw [r_]
  have zv2 := z_.trans zy2
  have bv2 := by2.trans (b_.mono (by omega))
  have dv2 := dy2.other k_ (by omega) (by omega) (by omega)
  have av2 := ay2.other k_ (by omega) (by omega) (by omega)
  have uv2 := uy2.other k_ (by omega) (by omega) (by omega)
  clear r_ z_ k_ b_ my2 zy2 by2 dy2 ay2 uy2
  go_wp2
  obtain ⟨v3, r_, mv3, z_, k_, b_⟩ := put_fact v2 (w.heap.size + 3 + 3) 3 _ 3 (.func (.func 22) #[] #[]) mv2 rfl
  rw [r_]
  have zv3 := z_.trans zv2
  have bv3 := bv2.trans (b_.mono (by omega))
  have dv3 := dv2.other k_ (by omega) (by omega) (by omega)
  have av3 := av2.other k_ (by omega) (by omega) (by omega)
  have uv3 := uv2.other k_ (by omega) (by omega) (by omega)
  clear r_ z_ k_ b_ mv2 zv2 bv2 dv2 av2 uv2
  go_wp2
  obtain ⟨v4, r_, mv4, z_, k_, b_⟩ := put_fact v3 (w.heap.size + 3 + 3) 4 _ 4 (.func (.func 22) #[] #[]) mv3 rfl
  rw [r_]
  have zv4 := z_.trans zv3
  have bv4 := bv3.trans (b_.mono (by omega))
  have dv4 := dv3.other k_ (by omega) (by omega) (by omega)
  have av4 := av3.other k_ (by omega) (by omega) (by omega)
  have uv4 := uv3.other k_ (by omega) (by omega) (by omega)
  clear r_ z_ k_ b_ mv3 zv3 bv3 dv3 av3 uv3
  go_wp2_with (first | (go_at_call 23; refine (only_ 3 4 4 _).mono ?_; rintro e y5 ⟨rfl, zy, ty5, by_⟩))
  have zy5 : y5.heap.size = w.heap.size + 13 := by rw [zy, zv4]
  have my5 := (by_.block _ (by omega)).trans mv4
  have dy5 := dv4.keep by_
  have ay5 := av4.keep by_
  have uy5 := uv4.keep by_
  rw [zv4] at ty5
  have ny5 := ty5
  have by5 := bv4.trans (by_.mono (by omega))
  clear zy by_ ty5 mv4 zv4 bv4 dv4 av4 uv4
  obtain ⟨v5, r_, mv5, z_, k_, b_⟩ := put_fact y5 (w.heap.size + 3 + 3) 5 _ 5 (clo 26 (w.heap.size + 10)) my5 rfl
  rw [r_]
  have zv5 := z_.trans zy5
  have bv5 := by5.trans (b_.mono (by omega))
  have dv5 := dy5.other k_ (by omega) (by omega) (by omega)
  have av5 := ay5.other k_ (by omega) (by omega) (by omega)
  have uv5 := uy5.other k_ (by omega) (by omega) (by omega)
  have nv5 := ny5.other k_ (by omega) (by omega) (by omega)
  clear r_ z_ k_ b_ my5 zy5 by5 dy5 ay5 uy5 ny5
  go_wp2
  obtain ⟨v6, r_, mv6, z_, k_, b_⟩ := put_fact v5 (w.heap.size + 3 + 3) 6 _ 6 (.func (.func 24) #[] #[]) mv5 rfl
  rw [r_]
  have zv6 := z_.trans zv5
  have bv6 := bv5.trans (b_.mono (by omega))
  have dv6 := dv5.other k_ (by omega) (by omega) (by omega)
  have av6 := av5.other k_ (by omega) (by omega) (by omega)
  have uv6 := uv5.other k_ (by omega) (by omega) (by omega)
  have nv6 := nv5.other k_ (by omega) (by omega) (by omega)
  clear r_ z_ k_ b_ mv5 zv5 bv5 dv5 av5 uv5 nv5
  go_wp2_with (first | (go_at_call 23; refine (only_ 5 6 0 _).mono ?_; rintro e y7 ⟨rfl, zy, ty7, by_⟩))
  have zy7 : y7.heap.size = w.heap.size + 16 := by rw [zy, zv6]
  have my7 := (by_.block _ (by omega)).trans mv6
  have dy7 := dv6.keep by_
  have ay7 := av6.keep by_
  have uy7 := uv6.keep by_
  have ny7 := nv6.keep by_
  rw [zv6] at ty7
  have ly7 := ty7
  have by7 := bv6.trans (by_.mono (by omega))
  clear zy by_ ty7 mv6 zv6 bv6 dv6 av6 uv6 nv6
  obtain ⟨v7, r_, mv7, z_, k_, b_⟩ := put_fact y7 (w.heap.size + 3 + 3) 7 _ 7 (clo 26 (w.heap.size + 13)) my7 rfl
  rw [r_]
  have zv7 := z_.trans zy7
  have bv7 := by7.trans (b_.mono (by omega))
  have dv7 := dy7.other k_ (by omega) (by omega) (by omega)
  have av7 := ay7.other k_ (by omega) (by omega) (by omega)
  have uv7 := uy7.other k_ (by omega) (by omega) (by omega)
  have nv7 := ny7.other k_ (by omega) (by omega) (by omega)
  have lv7 := ly7.other k_ (by omega) (by omega) (by omega)
  clear r_ z_ k_ b_ my7 zy7 by7 dy7 ay7 uy7 ny7 ly7
  go_wp2
  obtain ⟨v8, r_, mv8, z_, k_, b_⟩ := put_fact v7 (w.heap.size + 3 + 3) 8 _ 8 (clo 25 (w.heap.size + 3)) mv7 rfl
  rw [r_]
  have zv8 := z_.trans zv7
  have bv8 := bv7.trans (b_.mono (by omega))
  have dv8 := dv7.other k_ (by omega) (by omega) (by omega)
  have av8 := av7.other k_ (by omega) (by omega) (by omega)
  have uv8 := uv7.other k_ (by omega) (by omega) (by omega)
  have nv8 := nv7.other k_ (by omega) (by omega) (by omega)
  have lv8 := lv7.other k_ (by omega) (by omega) (by omega)
  clear r_ z_ k_ b_ mv7 zv7 bv7 dv7 av7 uv7 nv7 lv7
  go_wp2
  obtain ⟨v9, r_, mv9, z_, k_, b_⟩ := put_fact v8 (w.heap.size + 3 + 3) 9 _ 9 (clo 25 (w.heap.size + 3)) mv8 rfl
  rw [r_]
  have zv9 := z_.trans zv8
  have bv9 := bv8.trans (b_.mono (by omega))
  have dv9 := dv8.other k_ (by omega) (by omega) (by omega)
  have av9 := av8.other k_ (by omega) (by omega) (by omega)
  have uv9 := uv8.other k_ (by omega) (by omega) (by omega)
  have nv9 := nv8.other k_ (by omega) (by omega) (by omega)
  have lv9 := lv8.other k_ (by omega) (by omega) (by omega)
  clear r_ z_ k_ b_ mv8 zv8 bv8 dv8 av8 uv8 nv8 lv8
  go_wp2
  obtain ⟨v10, r_, mv10, z_, k_, b_⟩ := put_fact v9 (w.heap.size + 3 + 3) 10 _ 10 (clo 25 w.heap.size) mv9 rfl
  rw [r_]
  have zv10 := z_.trans zv9
  have bv10 := bv9.trans (b_.mono (by omega))
  have dv10 := dv9.other k_ (by omega) (by omega) (by omega)
  have av10 := av9.other k_ (by omega) (by omega) (by omega)
  have uv10 := uv9.other k_ (by omega) (by omega) (by omega)
  have nv10 := nv9.other k_ (by omega) (by omega) (by omega)
  have lv10 := lv9.other k_ (by omega) (by omega) (by omega)
  clear r_ z_ k_ b_ mv9 zv9 bv9 dv9 av9 uv9 nv9 lv9
  go_wp2
  obtain ⟨v11, r_, mv11, z_, k_, b_⟩ := put_fact v10 (w.heap.size + 3 + 3) 11 _ 11 (clo 25 w.heap.size) mv10 rfl
  rw [r_]
  have zv11 := z_.trans zv10
  have bv11 := bv10.trans (b_.mono (by omega))
  have dv11 := dv10.other k_ (by omega) (by omega) (by omega)
  have av11 := av10.other k_ (by omega) (by omega) (by omega)
  have uv11 := uv10.other k_ (by omega) (by omega) (by omega)
  have nv11 := nv10.other k_ (by omega) (by omega) (by omega)
  have lv11 := lv10.other k_ (by omega) (by omega) (by omega)
  clear r_ z_ k_ b_ mv10 zv10 bv10 dv10 av10 uv10 nv10 lv10
  go_wp2
  obtain ⟨v12, r_, mv12, z_, k_, b_⟩ := put_fact v11 (w.heap.size + 3 + 3) 12 _ 12 (clo 25 w.heap.size) mv11 rfl
  rw [r_]
  have zv12 := z_.trans zv11
  have bv12 := bv11.trans (b_.mono (by omega))
  have dv12 := dv11.other k_ (by omega) (by omega) (by omega)
  have av12 := av11.other k_ (by omega) (by omega) (by omega)
  have uv12 := uv11.other k_ (by omega) (by omega) (by omega)
  have nv12 := nv11.other k_ (by omega) (by omega) (by omega)
  have lv12 := lv11.other k_ (by omega) (by omega) (by omega)
  clear r_ z_ k_ b_ mv11 zv11 bv11 dv11 av11 uv11 nv11 lv11
  go_wp2
  go_ret
  exact ⟨rfl, mv12, dv12, av12, uv12, nv12, lv12, bv12⟩

theorem cell_of {W : World} {g : Nat} {v : Int} (h : Bx W g v) : W.cell? ⟨g, 0, none⟩ = some (.int .i64 v) := by
  unfold Bx at h
  simp [World.cell?, h]
theorem cells {W : World} {g : Nat} {a b c : Int} (h : B3 W g a b c) : W.cell? ⟨g, 0, none⟩ = some (.int .i64 a) ∧ W.cell? ⟨g + 1, 0, none⟩ = some (.int .i64 b) ∧ W.cell? ⟨g + 2, 0, none⟩ = some (.int .i64 c) := ⟨cell_of h.1, cell_of h.2.1, cell_of h.2.2⟩
theorem cellsA {W : World} {g : Nat} {a b c : Int} (h : B3 W g a b c) : (∀ o, (W.alloc o).cell? ⟨g, 0, none⟩ = some (.int .i64 a)) ∧ (∀ o, (W.alloc o).cell? ⟨g + 1, 0, none⟩ = some (.int .i64 b)) ∧ (∀ o, (W.alloc o).cell? ⟨g + 2, 0, none⟩ = some (.int .i64 c)) :=
  have k := fun o => cells (h.keep ((Below.refl _ W).alloc (Nat.le_refl _) o))
  ⟨fun o => (k o).1, fun o => (k o).2.1, fun o => (k o).2.2⟩
theorem look (W : World) (g clk i : Nat) (n : Int) (es : Array MapEntry) (v : Value) (hM : W.heap[g]? = some (.map es clk)) (hf : Instr.findNow (.int .i64) (.int .i64 n) es.toList 0 = some (some (i, v))) :
    (Instr.lookup 42 (.map (some g)) (.int .i64 n) false).run Go.Proofs.Try.prog W = .ok v W := by
  have hc : ∀ e : Bool, (Instr.checkKey e 10000 3 (.int .i64 n)).run Go.Proofs.Try.prog W = .ok () W := fun e => MapKept.run_checkKey (k := .int .i64 n) Go.Proofs.Try.underlying3 (by simp [MapKept.IsKey]) e 9999
  simp [Instr.lookup, run_underlying Go.Proofs.Try.underlying42, MapKept.run_getObj_map hM, hc, MapKept.run_findKey Go.Proofs.Try.underlying3 hf, Result.andThen]
end Go.Proofs.Ytldhdedlhfafjaa.T
