/- The chunks of a list of entries: the library's iterator, told by hand for the frame; by this project. -/
import Derived.Test.YtocloebloblodaaFenta
import Derived.Test.YtocloebloblodaaProg
namespace Go.Proofs.Ytocloebloblodaa.F
open Go Go.RowKit Go.Proofs Go.Proofs.Fr Go.Shelf
set_option linter.unusedVariables false
set_option linter.unusedSimpArgs false
attribute [local go_sem] Oper.semAt_some
/-- The numbers of the chunks. -/
def EnC (n : Nat) : Type := { k : Nat // 15 * k < n }
def enPre (n k : Nat) : List (EnC n) := (List.range k).filterMap fun j => if h : 15 * j < n then some ⟨j, h⟩ else none
theorem enPre_succ {n k : Nat} (h : 15 * k < n) : enPre n (k + 1) = enPre n k ++ [⟨k, h⟩] := by
  unfold enPre
  rw [List.range_succ, List.filterMap_append, List.filterMap_cons, List.filterMap_nil, dif_pos h]
theorem enPre_len (n k : Nat) : (enPre n k).length ≤ k := by
  have := List.length_filterMap_le (fun j => if h : 15 * j < n then some (⟨j, h⟩ : EnC n) else none) (List.range k)
  rw [List.length_range] at this
  exact this
def enEnc (n b o : Nat) (x : EnC n) : Array Value := #[.slice (some ⟨b, o + 15 * x.1 * 4, none⟩) (min 15 (n - 15 * x.1)) (min 15 (n - 15 * x.1))]
/-- The boxes of the slice and of the chunks' length stay. -/
def EnKp (Bs Bn : Nat) (W W' : World) : Prop := W'.heap[Bs]? = W.heap[Bs]? ∧ W'.heap[Bn]? = W.heap[Bn]?
theorem EnKp.refl (Bs Bn : Nat) (W : World) : EnKp Bs Bn W W := ⟨rfl, rfl⟩
theorem EnKp.trans {Bs Bn : Nat} {A B C : World} (h : EnKp Bs Bn A B) (k : EnKp Bs Bn B C) : EnKp Bs Bn A C := ⟨k.1.trans h.1, k.2.trans h.2⟩
theorem EnKp.drew {Bs Bn : Nat} {A B : World} (h : EnKp Bs Bn A B) : EnKp Bs Bn A B.drew := h
theorem ent.mixed : Go.Proofs.Try.prog.follows .mixedOrders = true := by kernel_rfl
set_option maxRecDepth 100000 in
set_option maxHeartbeats 4000000 in
theorem ent.chunk1 (F : Fence) (d : Nat) (h78 : F.fn 78) (hro : F.round = none) (hd : 1 ≤ d) (l Bs Bn b o n cap : Nat) (A : Option Addr) (hA : 0 < n → A = some ⟨b, o, none⟩) (hn : n ≤ 10000) (hcap : n ≤ cap) (J Jx : List (EnC n) → World → Prop)
    (hY : ∀ pre x W, J pre W → pre.length < (n + 14) / 15 → YieldAt F (d - 1) Go.Proofs.Try.prog l (enEnc n b o x) W fun e W' =>
      (e = .returned (.bool true) ∧ J (pre ++ [x]) W' ∧ EnKp Bs Bn W W') ∨ (e = .returned (.bool false) ∧ Jx (pre ++ [x]) W'))
    (W : World) (c1 : W.cell? ⟨Bs, 0, none⟩ = some (.slice A n cap)) (c2 : W.cell? ⟨Bn, 0, none⟩ = some (.int .i64 15)) (hJa : ∀ pre W, J pre W → J pre W.drew) (h0 : J [] W) :
    CallsIn F d Go.Proofs.Try.prog 78 #[.func (.yield l) #[] #[], .pointer (some ⟨Bs, 0, none⟩), .pointer (some ⟨Bn, 0, none⟩)] W fun e W' => (∃ v, e = .returned v) ∧
      ((∃ ys, ys = enPre n ((n + 14) / 15) ∧ J ys W') ∨ (∃ pre, True ∧ Jx pre W')) := by
  have mixed := ent.mixed
  refine callsIn_of_wp Go.Proofs.Try.func78 rfl h78 ?_ hro
  simp only [Go.Proofs.Try.ntmps78, List.size_toArray, List.length_cons, List.length_nil, Nat.reduceAdd, Nat.reduceSub, Array.replicate_succ, Array.replicate_zero, List.push_toArray, List.append_toArray, List.nil_append, List.cons_append]
  gi_wp2
  gi_loopw [4] (fun i wr => ∃ k : Nat, k ≤ (n + 14) / 15 ∧ i = .int .i64 ((15 * k : Nat) : Int) ∧ J (enPre n k) wr ∧ EnKp Bs Bn W wr)
    (fun i _ => n + 15 - (intOf i).toNat)
  case atStart => exact ⟨0, Nat.zero_le _, rfl, h0, EnKp.refl _ _ _⟩
  case round =>
    obtain ⟨k, hk, rfl, hJs, hnx⟩ := hrel
    have c1' := (cell_same hnx.1).trans c1
    have c2' := (cell_same hnx.2).trans c2
    by_cases hlt : 15 * k < n
    · obtain rfl := hA (by omega)
      obtain ⟨fn, tmps, assign, body, hy, hR⟩ := hY _ ⟨k, hlt⟩ wr.drew (hJa _ _ hJs) (by have := enPre_len n k; omega)
      dsimp only [enEnc] at hy
      by_cases hm : n - 15 * k < 15
      · rw [show min 15 (n - 15 * k) = n - 15 * k by omega] at hy
        have hy2 := hy
        rw [show n - 15 * k = (15 * (k : Int) + ((n - 15 * k : Nat) : Int)).toNat - 15 * k by omega] at hy2
        gi_wp2
        gi_region_o
        all_goals gi_wp2
        all_goals (refine hR.mono ?_; rintro e W3 (⟨rfl, hJ3, hk3⟩ | ⟨rfl, hJx3⟩))
        all_goals first
          | (have hq := (cell_same hk3.2).trans c2'
             have hr : EnKp Bs Bn W W3 := (hnx.drew).trans hk3
             gi_wp2
             go_roundw
             case rel => exact ⟨k + 1, by omega, by simp; omega, by rw [enPre_succ hlt]; exact hJ3, hr⟩
             case measure => simp [intOf]; omega)
          | (gi_wp2
             refine bodyPost_ret (results_none rfl _ _ _) rfl ?_
             exact ⟨⟨_, rfl⟩, .inr ⟨_, trivial, hJx3⟩⟩)
      · rw [show min 15 (n - 15 * k) = 15 by omega] at hy
        have hy2 : Sem.run Go.Proofs.Try.prog (Instr.yield l #[Value.slice (some { block := b, off := o + 15 * k * 4 }) ((15 * (k : Int) + 15).toNat - 15 * k) ((15 * (k : Int) + 15).toNat - 15 * k)]) wr.drew = Result.ok (Next.round l fn tmps assign body) wr.drew := by
          rw [show (15 * (k : Int) + 15).toNat - 15 * k = 15 by omega]
          exact hy
        gi_wp2
        gi_region_o
        all_goals gi_wp2
        all_goals (refine hR.mono ?_; rintro e W3 (⟨rfl, hJ3, hk3⟩ | ⟨rfl, hJx3⟩))
        all_goals first
          | (have hq := (cell_same hk3.2).trans c2'
             have hr : EnKp Bs Bn W W3 := (hnx.drew).trans hk3
             gi_wp2
             go_roundw
             case rel => exact ⟨k + 1, by omega, by simp; omega, by rw [enPre_succ hlt]; exact hJ3, hr⟩
             case measure => simp [intOf]; omega)
          | (gi_wp2
             refine bodyPost_ret (results_none rfl _ _ _) rfl ?_
             exact ⟨⟨_, rfl⟩, .inr ⟨_, trivial, hJx3⟩⟩)
    · obtain rfl : k = (n + 14) / 15 := by omega
      gi_wp2
      go_end0
      exact ⟨⟨_, rfl⟩, .inl ⟨_, rfl, hJs⟩⟩
theorem ent.chunk (F : Fence) (d : Nat) (h : F.fn 73) (hro : F.round = none) (a : Option Addr) (len cap : Nat) (w : World) :
    CallsIn F d Go.Proofs.Try.prog 73 #[.slice a len cap, .int .i64 15] w fun e w' => e = .returned (.func (.func 78) #[] #[.pointer (some ⟨w.heap.size, 0, none⟩), .pointer (some ⟨w.heap.size + 1, 0, none⟩)]) ∧ w' = (w.alloc (.cells #[.slice a len cap] 62)).alloc (.cells #[.int .i64 15] 3) := by
  refine callsIn_of_wp Go.Proofs.Try.func73 rfl h ?_ hro
  simp only [Go.Proofs.Try.ntmps73, List.size_toArray, List.length_cons, List.length_nil, Nat.reduceAdd, Nat.reduceSub, Array.replicate_succ, Array.replicate_zero, List.push_toArray, List.append_toArray, List.nil_append, List.cons_append]
  gi_wp2
  go_ret
  exact ⟨rfl, rfl⟩
theorem ent.stops (F : Fence) (d : Nat) (h78 : F.fn 78) (hro : F.round = none) (hd : 1 ≤ d) (Bs Bn b o n cap : Nat) (A : Option Addr) (hA : 0 < n → A = some ⟨b, o, none⟩) (hn : n ≤ 10000) (hcap : n ≤ cap) (w : World) (hBs : Bs < w.heap.size) (hBn : Bn < w.heap.size)
    (c1 : w.cell? ⟨Bs, 0, none⟩ = some (.slice A n cap)) (c2 : w.cell? ⟨Bn, 0, none⟩ = some (.int .i64 15)) :
    SeqStopsK F d Go.Proofs.Try.prog 78 #[.pointer (some ⟨Bs, 0, none⟩), .pointer (some ⟨Bn, 0, none⟩)] (enEnc n b o) (EnKp Bs Bn) (fun ys => ys = enPre n ((n + 14) / 15)) (fun _ => True) ((n + 14) / 15) w := fun l J Jx W hW hJ _ hY h0 =>
  ent.chunk1 F d h78 hro hd l Bs Bn b o n cap A hA hn hcap J Jx hY W ((hW.cell (p := ⟨Bs, 0, none⟩) hBs).trans c1) ((hW.cell (p := ⟨Bn, 0, none⟩) hBn).trans c2) (fun pre X hx => hJ pre X X.drew none hx ⟨rfl, rfl, rfl, Nat.le_refl _, fun _ _ _ => rfl⟩ (fun r e => by cases e)) h0
end Go.Proofs.Ytocloebloblodaa.F
