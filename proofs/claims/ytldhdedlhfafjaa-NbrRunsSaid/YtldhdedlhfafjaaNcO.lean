/- nbr.Step, out of range. -/
import Derived.Test.YtldhdedlhfafjaaNb
namespace Go.Proofs.Ytldhdedlhfafjaa.T
open Go Go.RowKit
set_option linter.unusedVariables false
set_option linter.unusedSimpArgs false
set_option maxHeartbeats 16000000 in
theorem stOut (s k : Int) (wn em : Bool) (w : World) (h : s < 0 ∨ 7 ≤ s ∨ k < 0 ∨ 13 ≤ k) : Calls Go.Proofs.Try.prog 7 #[.int .i64 s, .int .i64 k, .bool wn, .bool em] w fun e w' => e = .returned (.tuple #[.int .i64 s, .int .i64 0, .int .i64 1]) ∧ Below w.heap.size w w' := by
  by_cases c1 : s < 0
  · have d1 : decide (s < 0) = true := decide_eq_true c1
    clear c1 h
    go_enter Go.Proofs.Try.func7, Go.Proofs.Try.ntmps7
    go_wp2
    go_ret3
    exact ⟨rfl, by repeat (first | exact Below.refl _ _ | apply below_alloc | apply pw_below_drewN | apply below_drew1)⟩
  · have d1 : decide (s < 0) = false := decide_eq_false c1
    by_cases c2 : 7 ≤ s
    · have d2 : decide (7 ≤ s) = true := decide_eq_true c2
      clear c1 c2 h
      go_enter Go.Proofs.Try.func7, Go.Proofs.Try.ntmps7
      go_wp2
      go_ret3
      exact ⟨rfl, by repeat (first | exact Below.refl _ _ | apply below_alloc | apply pw_below_drewN | apply below_drew1)⟩
    · have d2 : decide (7 ≤ s) = false := decide_eq_false c2
      by_cases c3 : k < 0
      · have d3 : decide (k < 0) = true := decide_eq_true c3
        clear c1 c2 c3 h
        go_enter Go.Proofs.Try.func7, Go.Proofs.Try.ntmps7
        go_wp2
        go_ret3
        exact ⟨rfl, by repeat (first | exact Below.refl _ _ | apply below_alloc | apply pw_below_drewN | apply below_drew1)⟩
      · have d3 : decide (k < 0) = false := decide_eq_false c3
        have d4 : decide (13 ≤ k) = true := decide_eq_true (by omega)
        clear c1 c2 c3 h
        go_enter Go.Proofs.Try.func7, Go.Proofs.Try.ntmps7
        go_wp2
        go_ret3
        exact ⟨rfl, by repeat (first | exact Below.refl _ _ | apply below_alloc | apply pw_below_drewN | apply below_drew1)⟩
end Go.Proofs.Ytldhdedlhfafjaa.T
