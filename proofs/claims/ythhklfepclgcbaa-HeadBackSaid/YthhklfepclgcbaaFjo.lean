/- bytes.Join of two rows or more and an empty separator: what it answers is a row of the call's own; walked by hand and told for the frame; by this project. -/
import Derived.Test.YthhklfepclgcbaaProg
import Derived.Test.YthhklfepclgcbaaFrd
import Derived.Tactics
import Derived.Tactics2
import Derived.WalkKit
import Derived.KernelRfl
import Derived.Laws.Slices
import Derived.Laws.Rows
import Derived.Laws.Tables
import Derived.WalkSpells
import Derived.RowKit
import Derived.Below
import Derived.Lib.Walk
import Derived.Lib.SliceRun
import Derived.Lib.SlBuf
import Derived.Lib.MakeNoZero
import Derived.Laws.Externs
import Derived.Laws.NewBlocks
namespace Go.Proofs.Ythhklfepclgcbaa.F
open Go Go.RowKit Go.Proofs Go.Proofs.Fr
set_option linter.unusedVariables false
set_option linter.unusedSimpArgs false
-- PLAIN bytes_Join (List (List Int) × List Int × Unit)
def bytes_Join.q (a : List (List Int) × List Int × Unit) : Option (List Int × Unit) := if 2 ≤ a.1.length ∧ a.1.length ≤ 100000 ∧ a.2.1.length = 0 ∧ a.1.flatten.length ≤ 1000000000 then some (a.1.flatten, ()) else none
-- END
theorem jo_hid {p : Prop} (h : p) : RowKit.Hid p := h
/-- The rows that are joined, in memory. -/
def JR (w : World) (k o : Nat) (xs : List (List Int)) : Prop :=
  k < w.heap.size ∧ ∀ (i : Nat) x, xs[i]? = some x → ∃ A cc, w.cell? ⟨k, o + i, none⟩ = some (.slice A x.length cc) ∧ ∀ (j : Nat) u, x[j]? = some u → ∃ b p, A = some ⟨b, p, none⟩ ∧ b < w.heap.size ∧ w.cell? ⟨b, p + j, none⟩ = some (.int .u8 u)
/-- The row that is filled; its block is the first one that is new. -/
def JB (w : World) (T : Nat) (acc : List Int) (wr : World) : Prop :=
  BelowO (fun j => w.heap.size ≤ j) w wr ∧ ∃ cur : Array Value, wr.heap[w.heap.size]? = some (.cells cur 5 (0, 0)) ∧ T ≤ cur.size ∧ cur.toList.take acc.length = acc.map (Value.int .u8)
theorem jo.cells {W : World} {q : Nat} {cur : Array Value} {E : TypeId} {f : Nat × Nat} (h : W.heap[q]? = some (.cells cur E f)) (j : Nat) : W.cell? ⟨q, j, none⟩ = cur[j]? := by
  unfold World.cell?
  simp only [h]
  rfl
theorem jo.copy {w wr : World} {k o T : Nat} {xs : List (List Int)} {acc x : List Int} {A : Option Addr} {cc : Nat} (hB : JB w T acc wr) (hfit : acc.length + x.length ≤ T)
    (hx : ∀ (j : Nat) u, x[j]? = some u → ∃ b p, A = some ⟨b, p, none⟩ ∧ b < w.heap.size ∧ w.cell? ⟨b, p + j, none⟩ = some (.int .u8 u)) :
    ∃ wr', (Builtin.copy_ #[24, 24] 3 #[Lib.tailV w.heap.size T acc.length, .slice A x.length cc]).run Go.Proofs.Try.prog wr = .ok (.int .i64 (x.length : Int)) wr' ∧ JB w T (acc ++ x) wr' := by
  have hT : Go.Proofs.Try.prog.underlying 24 = some (.slice 5) := Go.Proofs.Try.underlying24
  have hs : (Go.Proofs.Try.prog.info? 5).map (·.size) = some 1 := by kernel_rfl
  obtain ⟨hbel, cur, hh, hTc, htk⟩ := hB
  by_cases hl : x = []
  · subst hl
    refine ⟨wr, run_copy_none (P := Go.Proofs.Try.prog) wr _ _ _ _ _ A _ _ _ cc hT hs (by simp), hbel, cur, hh, hTc, by rw [List.append_nil]; exact htk⟩
  · have hpos : 0 < x.length := List.length_pos_iff.2 hl
    obtain ⟨b, p, rfl, hb, _⟩ := hx 0 x[0] (List.getElem?_eq_getElem hpos)
    have hne : ¬ T = acc.length := by omega
    have hsz : (Go.Proofs.Try.prog.info? 5).map (·.size) = some 1 := hs
    have hz : ∀ W, (Go.sizeOf 5).run Go.Proofs.Try.prog W = .ok 1 W := fun W => by kernel_rfl
    have hld := run_loadCells_list (P := Go.Proofs.Try.prog) (w := wr) ⟨b, p, none⟩ (x.map (Value.int .u8)) (fun j v hj => by
      rw [List.getElem?_map] at hj
      obtain ⟨u, hu, rfl⟩ := Option.map_eq_some_iff.1 hj
      obtain ⟨b', p', e, hb', hc⟩ := hx j u hu
      cases e
      rw [add_at]
      exact (cell_same (hbel.block b hb (by omega))).trans hc)
    rw [List.length_map] at hld
    have hst := run_storeCells_at (P := Go.Proofs.Try.prog) w.heap.size acc.length 5 (x.map (Value.int .u8)) 0 cur wr hh (by rw [List.length_map]; omega) (by simp [Value.oneCell'])
    simp only [Nat.add_zero] at hst
    have hmm : Nat.min x.length (T - acc.length) = x.length := Nat.min_eq_left (by omega)
    have hrun : (Builtin.copy_ #[24, 24] 3 #[Lib.tailV w.heap.size T acc.length, .slice (some ⟨b, p, none⟩) x.length cc]).run Go.Proofs.Try.prog wr = .ok (.int .i64 (x.length : Int)) (wr.setRow w.heap.size (cur.toList.take acc.length ++ x.map (Value.int .u8) ++ cur.toList.drop (acc.length + (x.map (Value.int .u8)).length)).toArray) := by
      unfold Lib.tailV
      rw [if_neg hne]
      simp [Builtin.copy_, run_underlying hT, hz, hmm, Builtin.lenOf, Builtin.firstCells, hld, hst, goInt]
    refine ⟨_, hrun, ⟨hbel.os, hbel.tape, hbel.output, by simpa [World.setRow] using hbel.size, fun j hj hno => ?_⟩, _, setRow_heap wr _ cur _ _ _ hh, ?_, ?_⟩
    · rw [setRow_other wr _ j _ (by omega)]
      exact hbel.block j hj hno
    · simp only [List.size_toArray, List.length_append, List.length_take, List.length_map, List.length_drop, Array.length_toList]
      omega
    · rw [List.toList_toArray, htk, List.length_append, List.map_append, List.append_assoc, ← List.append_assoc, List.take_append_of_le_length (by simp), List.take_of_length_le (by simp)]
/-- How long the first rows are together. -/
def jL (xs : List (List Int)) (i : Nat) : Nat := (xs.take i).flatten.length
theorem jL_succ {xs : List (List Int)} {i : Nat} {x : List Int} (h : xs[i]? = some x) : jL xs (i + 1) = jL xs i + x.length ∧ (xs.take (i + 1)).flatten = (xs.take i).flatten ++ x := by
  obtain ⟨hi, rfl⟩ := List.getElem?_eq_some_iff.1 h
  have e : (xs.take (i + 1)).flatten = (xs.take i).flatten ++ xs[i] := by
    rw [List.take_succ_eq_append_getElem hi, List.flatten_append]
    simp
  exact ⟨by unfold jL; rw [e, List.length_append], e⟩
theorem jL_le (xs : List (List Int)) (i : Nat) : jL xs i ≤ xs.flatten.length := by
  unfold jL
  have e : xs.flatten = (xs.take i).flatten ++ (xs.drop i).flatten := by rw [← List.flatten_append, List.take_append_drop]
  rw [e, List.length_append]
  omega
def JPost (w : World) (l : List Int) (e : Ending) (w' : World) : Prop := e = .returned (.slice (some ⟨w.heap.size, 0, none⟩) l.length l.length) ∧ JB w l.length l w'
theorem jo.tail (W : World) (h T a : Nat) (ha : a ≤ T) : (Instr.slice 24 (.slice (some ⟨h, 0, none⟩) T T) (some (.int .i64 (a : Int))) none none).run Go.Proofs.Try.prog W = .ok (Lib.tailV h T a) W :=
  Lib.run_slice_tailV W 24 5 Go.Proofs.Try.underlying24 (fun W => by kernel_rfl) h T a ha
theorem jo.made (w : World) (T : Nat) (hT : T ≤ 1000000000) : ∃ (cs : Array Value) (W1 : World), (callFunc 28 #[.int .i64 (T : Int)]).run Go.Proofs.Try.prog w = .ok (.value (.slice (some ⟨w.heap.size, 0, none⟩) T cs.size)) W1 ∧ T ≤ cs.size ∧ JB w T [] W1 ∧ ∀ b off, b < w.heap.size → W1.cell? ⟨b, off, none⟩ = w.cell? ⟨b, off, none⟩ := by
  obtain ⟨cs, hrun, hle, _⟩ := Lib.run_makeNoZero (P := Go.Proofs.Try.prog) w #[3] 24 5 Go.Proofs.Try.underlying24 T (by omega)
  have hat : ∀ j, j < w.heap.size → (w.drew.drew.alloc (.cells cs 5)).heap[j]? = w.heap[j]? := fun j hj => heap_alloc_old w.drew.drew _ hj
  refine ⟨cs, w.drew.drew.alloc (.cells cs 5), ?_, hle, ⟨⟨rfl, rfl, rfl, ?_, fun j hj _ => hat j hj⟩, cs, heap_alloc_new w.drew.drew _, hle, by simp⟩, fun b off hb => cell_same (hat b hb)⟩
  · rw [run_callFunc_extern Go.Proofs.Try.func28 (by kernel_rfl) (by kernel_rfl) (by kernel_rfl) (e := Extern.BytealgMakeNoZero.makeNoZero #[3] #[24]) (by kernel_rfl), hrun]
    rfl
  · show w.heap.size ≤ (w.heap.push _).size
    rw [Array.size_push]
    omega
set_option maxHeartbeats 4000000 in
set_option maxRecDepth 100000 in
theorem jo.walk (w : World) (k o n c c2 : Nat) (A2 : Option Addr) (xs : List (List Int)) (h2 : 2 ≤ n) (hn : n = xs.length) (hn5 : n ≤ 100000) (hcap : n ≤ c) (hT : xs.flatten.length ≤ 1000000000) (hJ : JR w k o xs) :
    Calls Go.Proofs.Try.prog 18 #[.slice (some ⟨k, o, none⟩) n c, .slice A2 0 c2] w fun e w' => JPost w xs.flatten e w' := by
  have HN := jo_hid hn
  clear hn
  have HJ := jo_hid hJ
  clear hJ
  have f0 : ¬ ((n : Int) = 0) := by omega
  have f1 : ¬ ((n : Int) = 1) := by omega
  have f2 : ¬ (n = 0) := by omega
  have f3 : ¬ (n = 1) := by omega
  have f4 : ¬ (c = 1) := by omega
  have f5 : (1 : Int) ≤ (n : Int) := by omega
  go_enter Go.Proofs.Try.func18, Go.Proofs.Try.ntmps18
  go_wp2
  go_loop [5, 44] (fun s5 s44 => ∃ i : Nat, i ≤ n ∧ s44 = .int .i64 i ∧ s5 = .int .i64 (jL xs i : Nat)) (fun _ s44 => n - (intOf s44).toNat)
  case atStart => exact ⟨0, Nat.zero_le _, rfl, rfl⟩
  case round =>
    obtain ⟨i, hi, rfl, rfl⟩ := hrel
    by_cases hlt : i < n
    · obtain ⟨x, hx⟩ : ∃ x, xs[i]? = some x := ⟨xs[i]'(by have := HN.out; omega), List.getElem?_eq_getElem _⟩
      obtain ⟨A, cc, c1, _⟩ := HJ.out.2 i x hx
      have hs := jo_hid (jL_succ hx).1
      have hb := jL_le xs (i + 1)
      rw [(jL_succ hx).1] at hb
      obtain ⟨a, ha⟩ : ∃ a, a = jL xs i := ⟨_, rfl⟩
      rw [← ha] at hb hs ⊢
      clear ha
      have hb1 : ¬ (9223372036854775807 - (a : Int) < (x.length : Int)) := by omega
      go_wp2
      go_round
      case rel => exact ⟨i + 1, by omega, by go_num, by rw [hs.out]; rfl⟩
      case measure => simp [intOf]; omega
    · have e : i = n := by omega
      subst e
      obtain ⟨T, hTe⟩ : ∃ T, T = xs.flatten.length := ⟨_, rfl⟩
      have hLT : jL xs i = T := by
        unfold jL
        rw [List.take_of_length_le (by have := HN.out; omega), hTe]
      rw [hLT]
      have hT9 : T ≤ 1000000000 := by omega
      obtain ⟨cs, W1, hmz, hle, hB0, hold⟩ := jo.made w T hT9
      obtain ⟨x0, hx0⟩ : ∃ x, xs[0]? = some x := ⟨xs[0]'(by have := HN.out; omega), List.getElem?_eq_getElem _⟩
      obtain ⟨A0, cc0, c0, d0⟩ := HJ.out.2 0 x0 hx0
      have e0 := (hold k (o + 0) HJ.out.1).trans c0
      rw [Nat.add_zero] at e0
      have hb0 := jL_le xs (0 + 1)
      have hs0 := jL_succ hx0
      have z0 : jL xs 0 = 0 := by unfold jL; simp
      rw [hs0.1, z0] at hb0
      have hfit0 : ([] : List Int).length + x0.length ≤ T := by rw [List.length_nil]; omega
      have hs0' := jo_hid (show jL xs (0 + 1) = x0.length by rw [hs0.1, z0, Nat.zero_add])
      clear z0
      obtain ⟨W2, hr1, hB1⟩ := jo.copy (k := k) (o := o) (xs := xs) (cc := cc0) hB0 hfit0 d0
      rw [List.length_nil, Lib.tailV_zero] at hr1
      have hB1' := jo_hid (show JB w T ((xs.take (0 + 1)).flatten) W2 by rw [hs0.2]; simpa using hB1)
      have hLT' := jo_hid hLT
      have hTe' := jo_hid hTe
      have i0 : (0 : Int) ≤ (T : Int) := by omega
      have i1 : (T : Int) ≤ (cs.size : Int) := by omega
      clear hB1 hs0 hB0 hold c0 d0 hx0 hLT hTe hle hfit0
      go_wp2_with (at_builtin; refine Lib.wpList_copy_run _ rfl _ _ 24 24 rfl _ _ rfl rfl hr1 ?_)
      clear hr1 hmz e0 hb0
      go_loopw [9, 72] (fun s9 s72 wr => ∃ j : Nat, j ≤ i - 1 ∧ s72 = .int .i64 j ∧ s9 = .int .i64 (jL xs (j + 1) : Nat) ∧ RowKit.Hid (JB w T ((xs.take (j + 1)).flatten) wr)) (fun _ s72 _ => i - (intOf s72).toNat)
      case atStart => exact ⟨0, Nat.zero_le _, rfl, by rw [hs0'.out], hB1'⟩
      case round =>
        obtain ⟨j, hj, rfl, rfl, HB⟩ := hrel
        by_cases hjl : j < i - 1
        · obtain ⟨x, hx⟩ : ∃ x, xs[j + 1]? = some x := ⟨xs[j + 1]'(by have := HN.out; omega), List.getElem?_eq_getElem _⟩
          obtain ⟨A, cc, c1, d1⟩ := HJ.out.2 (j + 1) x hx
          have hbel := HB.out.1
          have e1 : wr.cell? ⟨k, o + 1 + j, none⟩ = some (.slice A x.length cc) := by
            rw [← c1, show o + 1 + j = o + (j + 1) by omega]
            exact cell_same (hbel.block k HJ.out.1 (by have := HJ.out.1; omega))
          have hs := jL_succ hx
          have hb := jL_le xs (j + 1 + 1)
          rw [hs.1] at hb
          obtain ⟨a, ha⟩ : ∃ a, a = jL xs (j + 1) := ⟨_, rfl⟩
          have hal : ((xs.take (j + 1)).flatten).length = a := ha.symm
          have hTb : xs.flatten.length = T := hTe'.out.symm
          rw [← ha] at hb
          rw [hTb] at hb
          obtain ⟨wr', hr3, hB3⟩ := jo.copy (k := k) (o := o) (xs := xs) (cc := cc) HB.out (by rw [hal]; exact hb) d1
          have hr2 := run_copy_none (P := Go.Proofs.Try.prog) wr 24 24 3 5 (some (if T = a then ⟨w.heap.size, 0, none⟩ else ⟨w.heap.size, a, none⟩)) A2 (T - a) (T - a) 0 c2 Go.Proofs.Try.underlying24 (by kernel_rfl) (by simp)
          have hr2' : (Builtin.copy_ #[24, 24] 3 #[Lib.tailV w.heap.size T a, .slice A2 0 c2]).run Go.Proofs.Try.prog wr = .ok (.int .i64 0) wr := hr2
          have hsl : ∀ W, (Instr.slice 24 (.slice (some ⟨w.heap.size, 0, none⟩) T T) (some (.int .i64 (a : Int))) none none).run Go.Proofs.Try.prog W = .ok (Lib.tailV w.heap.size T a) W := fun W => jo.tail W _ T a (by omega)
          rw [hal] at hr3
          have HB3 := jo_hid (show JB w T ((xs.take (j + 1 + 1)).flatten) wr' by rw [hs.2]; exact hB3)
          have hs' := jo_hid (show jL xs (j + 1 + 1) = a + x.length by rw [hs.1, ha])
          have hjn : (j : Int) < ((i - 1 : Nat) : Int) := by omega
          have hw0 : IntKind.i64.wrap ((a : Int) + (x.length : Int)) = (a : Int) + (x.length : Int) := by rw [IntKind.wrap_i64]; omega
          rw [← ha]
          clear hr2 hB3 hs hal ha hTb c1 d1 hbel HB hx
          go_wp2_with (at_builtin; first | refine Lib.wpList_copy_run _ rfl _ _ 24 24 rfl _ _ rfl rfl hr2' ?_ | refine Lib.wpList_copy_run _ rfl _ _ 24 24 rfl _ _ rfl rfl hr3 ?_)
          refine ⟨?_, ?_⟩
          · first | exact ⟨j + 1, by omega, by go_num, by rw [hs'.out]; rfl, HB3⟩ | exact ⟨_, _, _, _, _, _, _, _, _, _, _, _, _, _, _, _, _, _, _, _, ⟨j + 1, by omega, by go_num, by rw [hs'.out]; rfl, HB3⟩, rfl⟩
          · simp [intOf]; omega
        · have e : j = i - 1 := by omega
          subst e
          have hend : (xs.take (i - 1 + 1)).flatten = xs.flatten := by
            rw [List.take_of_length_le (by have := HN.out; omega)]
          have HP := jo_hid (show JPost w xs.flatten (.returned (.slice (some ⟨w.heap.size, 0, none⟩) T T)) wr by
            refine ⟨by rw [hTe'.out], ?_⟩
            have := HB.out
            rw [hend, hTe'.out] at this
            exact this)
          have hjn : ¬ (((i - 1 : Nat) : Int) < ((i - 1 : Nat) : Int)) := by omega
          clear hend HB hB1'
          go_wp2
          go_ret
          exact HP.out
noncomputable def bytes_Join.f (a : dens [.v (.sl 24 (.sl 5 (.int .u8))), .v (.sl 5 (.int .u8))]) : Option (dens [.own 5 (.int .u8)]) := bytes_Join.q a
noncomputable def bytes_Join.sp : Sp := ⟨[.v (.sl 24 (.sl 5 (.int .u8))), .v (.sl 5 (.int .u8))], [.own 5 (.int .u8)], bytes_Join.f⟩
theorem jo.flat (xs : List Int) : (xs.map fun x => [Value.int .u8 x]).flatten = xs.map (.int .u8) := by
  induction xs with
  | nil => rfl
  | cons x xs ih => rw [List.map_cons, List.flatten_cons, ih]; rfl
theorem jo.en {w : World} {ok : Nat → Prop} : ∀ (xs : List Int), All2 (En w ok (.int .u8)) xs (xs.map fun x => [Value.int .u8 x])
  | [] => trivial
  | x :: xs => ⟨rfl, jo.en xs⟩
theorem bytes_Join.sound : Sound Go.Proofs.Try.prog 18 bytes_Join.sp := ⟨ent_of Go.Proofs.Try.func18 (by kernel_rfl) (by kernel_rfl), by
  intro x y hy w vs ok bs hok hargs hnd hdis
  obtain ⟨x1, x2, _⟩ := x
  obtain ⟨c1, r1, b1, d1, rfl, rfl, ⟨h1, e1⟩, c2, r2, b2, d2, rfl, rfl, ⟨h2, e2⟩, e3, e4⟩ := hargs
  subst e1 e2 e3 e4
  have hy' : bytes_Join.q (x1, x2, ()) = some y := hy
  unfold bytes_Join.q at hy'
  dsimp only at hy'
  split at hy'
  rotate_left
  · cases hy'
  rename_i hc
  cases hy'
  obtain ⟨n2, n5, hs, hl⟩ := hc
  have hs' : x2 = [] := List.eq_nil_of_length_eq_zero hs
  subst hs'
  obtain ⟨A, c, hc1, hlen, hel⟩ : ∃ (A : Option Addr) (c : Nat), c1 = [.slice A (List.length (α := List Int) x1) c] ∧ List.length (α := List Int) x1 ≤ c ∧ ∀ (i : Nat) (h : i < List.length (α := List Int) x1), ∃ k o cs, A = some ⟨k, o, none⟩ ∧ ok k ∧ En w ok (.sl 5 (.int .u8)) (x1[i]'h) cs ∧ ∀ j (hj : j < cs.length), w.cell? ⟨k, o + i * 1 + j, none⟩ = some cs[j] := h1
  obtain ⟨A2, c2', hc2, hlen2, _⟩ : ∃ (A : Option Addr) (c : Nat), c2 = [.slice A (List.length (α := Int) []) c] ∧ _ := h2
  subst hc1 hc2
  obtain ⟨k, o, _, hA, hk, _⟩ := hel 0 (by omega)
  subst hA
  have hJ : JR w k o x1 := by
    refine ⟨hok k hk, fun i x hx => ?_⟩
    obtain ⟨hi, rfl⟩ := List.getElem?_eq_some_iff.1 hx
    obtain ⟨k', o', cs, hA, _, hen, hcell⟩ := hel i hi
    cases hA
    obtain ⟨A1, cc, hcs, _, hrow⟩ : ∃ (A : Option Addr) (c : Nat), cs = [.slice A (List.length (α := Int) (x1[i]'hi)) c] ∧ List.length (α := Int) (x1[i]'hi) ≤ c ∧ ∀ (j : Nat) (h : j < List.length (α := Int) (x1[i]'hi)), ∃ k o cs, A = some ⟨k, o, none⟩ ∧ ok k ∧ En w ok (.int .u8) ((x1[i]'hi)[j]'h) cs ∧ ∀ q (hq : q < cs.length), w.cell? ⟨k, o + j * 1 + q, none⟩ = some cs[q] := hen
    subst hcs
    refine ⟨A1, cc, ?_, fun j u hu => ?_⟩
    · have := hcell 0 (by simp)
      simpa using this
    · obtain ⟨hj, rfl⟩ := List.getElem?_eq_some_iff.1 hu
      obtain ⟨b, p, cs, hA1, hb, he, hc⟩ := hrow j hj
      have he' : cs = [.int .u8 ((x1[i]'hi)[j]'hj)] := he
      subst he'
      refine ⟨b, p, hA1, hok b hb, ?_⟩
      have := hc 0 (by simp)
      simpa using this
  refine Calls.mono (jo.walk w k o _ c c2' A2 x1 n2 rfl n5 hlen hl hJ) ?_
  rintro e w' ⟨rfl, hbel, cur, hh, hTc, htk⟩
  have hlt : w.heap.size < w'.heap.size := (Array.getElem?_eq_some_iff.1 hh).1
  refine ⟨[.slice (some ⟨w.heap.size, 0, none⟩) x1.flatten.length x1.flatten.length], [w.heap.size], ok, rfl, rfl, ⟨[.slice (some ⟨w.heap.size, 0, none⟩) x1.flatten.length x1.flatten.length], [], [w.heap.size], [], rfl, rfl, ⟨_, rfl, ⟨x1.flatten.map fun x => [Value.int .u8 x], jo.en _, ?_, .inr ⟨w.heap.size, 0, _, cur, rfl, Nat.zero_le _, hh, Nat.le_refl _, ?_, ?_, ?_⟩⟩, rfl⟩, rfl, rfl⟩, by simp, fun b hb => ?_, fun q hq => ⟨.inl hq, Nat.lt_of_lt_of_le (hok q hq) hbel.size, fun hb => ?_⟩, ⟨hbel.os, hbel.tape, hbel.output, hbel.size, fun k hk hno => hbel.block k hk fun h => hno (.inr h)⟩⟩
  · rw [jo.flat, List.length_map]; show x1.flatten.length = x1.flatten.length * 1; omega
  · unfold maxLen; omega
  · show 0 + x1.flatten.length * 1 ≤ cur.size; omega
  · rw [List.drop_zero, jo.flat]
    show List.take (x1.flatten.length * 1) cur.toList = _
    rw [Nat.mul_one]
    exact htk
  · right
    have : b = w.heap.size := by simpa using hb
    omega
  · have : q = w.heap.size := by simpa using hb
    have := hok q hq
    omega, fun n h => (by
  have h' : (none : Option Nat) = some n := h
  cases h')⟩
end Go.Proofs.Ythhklfepclgcbaa.F
