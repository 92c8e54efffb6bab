/- nbr.Step at event 4, in any state. -/
import Derived.Test.YtldhdedlhfafjaaNb
namespace Go.Proofs.Ytldhdedlhfafjaa.T
open Go Go.RowKit
set_option linter.unusedVariables false
set_option linter.unusedSimpArgs false
set_option maxHeartbeats 16000000 in
theorem st4 (s : Int) (wn em : Bool) (w : World) (h : 0 ≤ s ∧ s < 7) : Calls Go.Proofs.Try.prog 7 #[.int .i64 s, .int .i64 4, .bool wn, .bool em] w fun e w' => e = .returned (.tuple #[.int .i64 (stp s 4 wn em).1, .int .i64 (fin s (stp s 4 wn em)), .int .i64 0]) ∧ Below w.heap.size w w' := by
  rcases (show s = 0 ∨ s = 1 ∨ s = 2 ∨ s = 3 ∨ s = 4 ∨ s = 5 ∨ s = 6 by omega) with rfl | rfl | rfl | rfl | rfl | rfl | rfl <;> clear h <;> cases wn <;> (
    go_enter Go.Proofs.Try.func7, Go.Proofs.Try.ntmps7
    go_wp2_with (go_at_call 17; refine (steps_ _).mono ?_; rintro e w1 ⟨rfl, m1, d1, a1, u1, n1, l1, b1⟩)
    rw [look _ _ _ _ _ _ _ m1 rfl]
    skip
    go_wp2
    repeat (go_quiet (fail); try go_wp2)
    go_ret3
    exact ⟨by first | rfl | decide | (simp; done), by repeat (first | exact b1 | apply below_alloc | apply pw_below_drewN | apply below_drew1)⟩)
end Go.Proofs.Ytldhdedlhfafjaa.T
