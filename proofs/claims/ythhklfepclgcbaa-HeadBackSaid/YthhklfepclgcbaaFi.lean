/- What hands back the cells that it was given: told for the frame. -/
import Derived.Test.YthhklfepclgcbaaProg
import Derived.Test.YthhklfepclgcbaaFrd
import Derived.Tactics
import Derived.Tactics2
import Derived.WalkKit
import Derived.KernelRfl
import Derived.Laws.Slices
import Derived.Laws.Rows
import Derived.WalkSpells
import Derived.RowKit
import Derived.Below
namespace Go.Proofs.Ythhklfepclgcbaa.F
open Go Go.RowKit Go.Proofs.Fr
set_option linter.unusedVariables false
set_option linter.unusedSimpArgs false
theorem heap_two (w : World) (A B : Obj) : ((w.alloc A).alloc B).heap[w.heap.size + 1]? = some B := by
  show ((w.heap.push A).push B)[w.heap.size + 1]? = some B
  rw [Array.getElem?_push, if_pos (by rw [Array.size_push])]
theorem cell_at {W : World} {k : Nat} {cs : Array Value} {E : TypeId} {f : Nat × Nat} (h : W.heap[k]? = some (.cells cs E f)) (j : Nat) : W.cell? ⟨k, j, none⟩ = cs[j]? := by
  unfold World.cell?
  simp only [h]
  rfl
set_option maxHeartbeats 4000000 in
theorem law09_plain.calls (w : World) (c0 c1 c2 c3 c4 c5 c6 c7 c8 c9 c10 c11 c12 : Value) (h0 : c0.cells = #[c0]) (h1 : c1.cells = #[c1]) (h2 : c2.cells = #[c2]) (h3 : c3.cells = #[c3]) (h12 : c12.cells = #[c12]) (hone : ∀ u ∈ [c0, c1, c2, c3, c4, c5, c6, c7, c8, c9, c10, c11, c12], u.oneCell' = true) : Calls Go.Proofs.Try.prog 10 #[.agg #[c0, c1, c2, c3, c4, c5, c6, c7, c8, c9, c10, c11, c12]] w fun e w' => e = .returned (.agg #[c0, c1, c2, c3, c4, c5, c6, c7, c8, c9, c10, c11, c12]) ∧ Below w.heap.size w w' := by
  obtain ⟨ti, hti, hsz, hag⟩ : ∃ ti, tinfo Go.Proofs.Try.prog 32 = some ti ∧ ti.size = 13 ∧ isAggD ti.desc = true := by
    have h : (tinfo Go.Proofs.Try.prog 32).map (fun ti => (ti.size, isAggD ti.desc)) = some (13, true) := by kernel_rfl
    cases ht : tinfo Go.Proofs.Try.prog 32 with
    | none => rw [ht] at h; cases h
    | some ti =>
      rw [ht] at h
      simp only [Option.map_some, Option.some.injEq, Prod.mk.injEq] at h
      exact ⟨ti, rfl, h.1, h.2⟩
  unfold Value.cells at h0
  unfold Value.cells at h1
  unfold Value.cells at h2
  unfold Value.cells at h3
  unfold Value.cells at h12
  go_enter Go.Proofs.Try.func10, Go.Proofs.Try.ntmps10
  go_step
  go_step
  go_step
  go_step
  go_step
  go_step
  go_step
  go_step
  go_step
  go_step
  go_step
  go_step
  go_step
  go_step
  go_step
  go_step
  go_step
  go_step
  go_step
  go_step
  go_step
  go_step
  go_step
  go_step
  go_step
  go_step
  go_step
  go_step
  go_step
  go_step
  go_step
  go_step
  go_step
  go_step
  go_step
  go_step
  go_step
  go_step
  go_step
  go_step
  go_step
  go_step
  go_step
  go_step
  go_step
  go_step
  go_step
  go_step
  go_step
  go_step
  go_step
  go_step
  go_step
  go_step
  refine skip_wp (store_run rfl rfl rfl (run_store_at (ti := ti) hti (kb := w.heap.size + 1) (off := 0) (arr := #[.int .i64 0, .int .u32 0, .int .u32 0, .int .i64 0, .int .u8 0, .int .u8 0, .int .u8 0, .int .u8 0, .int .u8 0, .int .u8 0, .int .u8 0, .int .u8 0, .slice none 0 0]) (E := 32) (v := .agg #[c0, c1, c2, c3, c4, c5, c6, c7, c8, c9, c10, c11, c12]) (by rw [hsz]; rfl) (heap_two w _ _) (Nat.le_refl 13) hone)) ?_
  repeat' go_step
  have hW := setRow_heap ((w.alloc (Obj.cells #[c0, c1, c2, c3, c4, c5, c6, c7, c8, c9, c10, c11, c12] 26)).alloc (Obj.cells #[.int .i64 0, .int .u32 0, .int .u32 0, .int .i64 0, .int .u8 0, .int .u8 0, .int .u8 0, .int .u8 0, .int .u8 0, .int .u8 0, .int .u8 0, .int .u8 0, .slice none 0 0] 32)) (w.heap.size + 1) _ #[c0, c1, c2, c3, c4, c5, c6, c7, c8, c9, c10, c11, c12] 32 (0, 0) (heap_two w _ _)
  obtain ⟨d, hu, hdd⟩ : ∃ d, Go.Proofs.Try.prog.underlying 32 = some d ∧ isAggD d = true := ⟨_, (tinfo_facts hti).1, hag⟩
  obtain ⟨_, it, hit, _, his, _⟩ := tinfo_facts hti
  refine bodyPost_ret (v := .agg #[c0, c1, c2, c3, c4, c5, c6, c7, c8, c9, c10, c11, c12]) (results_cell_row (p := 2) (ty := 32) (by kernel_rfl) _ _ (w.heap.size + 1) 32 #[c0, c1, c2, c3, c4, c5, c6, c7, c8, c9, c10, c11, c12] (0, 0) d rfl hW hu ?_ ?_) rfl ⟨rfl, ?_⟩
  · cases d <;> first | rfl | (simp [isAggD] at hdd)
  · rw [hit, Option.map_some, his, hsz]; rfl
  · have hb : Below w.heap.size w ((w.alloc (Obj.cells #[c0, c1, c2, c3, c4, c5, c6, c7, c8, c9, c10, c11, c12] 26)).alloc (Obj.cells #[.int .i64 0, .int .u32 0, .int .u32 0, .int .i64 0, .int .u8 0, .int .u8 0, .int .u8 0, .int .u8 0, .int .u8 0, .int .u8 0, .int .u8 0, .int .u8 0, .slice none 0 0] 32)) := ((Below.refl _ _).alloc (Nat.le_refl _) _).alloc (by show w.heap.size ≤ (w.heap.push _).size; rw [Array.size_push]; omega) _
    exact ⟨hb.os, hb.tape, hb.output, by show w.heap.size ≤ (Array.modify _ _ _).size; rw [Array.size_modify]; exact hb.size, fun k hk => by rw [setRow_other _ _ _ _ (by omega)]; exact hb.block k hk⟩
noncomputable def law09_plain.sp : Sp := ⟨[.cons .nil (.bx 13 .nil)], [], fun _ => none⟩
theorem law09_plain.sound : Sound Go.Proofs.Try.prog 10 law09_plain.sp := ⟨ent_of Go.Proofs.Try.func10 (by kernel_rfl) (by kernel_rfl), fun x y hy => absurd hy (by show ¬ (none = some y); simp), by
  intro n h w cs hsz h1
  have h' : some 13 = some n := h
  injection h' with h'
  subst h'
  obtain ⟨l⟩ := cs
  rcases l with _ | ⟨c0, l⟩
  · simp at hsz
  rcases l with _ | ⟨c1, l⟩
  · simp at hsz
  rcases l with _ | ⟨c2, l⟩
  · simp at hsz
  rcases l with _ | ⟨c3, l⟩
  · simp at hsz
  rcases l with _ | ⟨c4, l⟩
  · simp at hsz
  rcases l with _ | ⟨c5, l⟩
  · simp at hsz
  rcases l with _ | ⟨c6, l⟩
  · simp at hsz
  rcases l with _ | ⟨c7, l⟩
  · simp at hsz
  rcases l with _ | ⟨c8, l⟩
  · simp at hsz
  rcases l with _ | ⟨c9, l⟩
  · simp at hsz
  rcases l with _ | ⟨c10, l⟩
  · simp at hsz
  rcases l with _ | ⟨c11, l⟩
  · simp at hsz
  rcases l with _ | ⟨c12, l⟩
  · simp at hsz
  have hl : l = [] := by
    cases l with
    | nil => rfl
    | cons a l => simp at hsz
  subst hl
  exact law09_plain.calls w c0 c1 c2 c3 c4 c5 c6 c7 c8 c9 c10 c11 c12 (cells_one (h1 c0 (by simp))) (cells_one (h1 c1 (by simp))) (cells_one (h1 c2 (by simp))) (cells_one (h1 c3 (by simp))) (cells_one (h1 c12 (by simp))) h1⟩
end Go.Proofs.Ythhklfepclgcbaa.F
