/- nbr.Step, told by hand: what it answers, for the frame. -/
import Derived.Test.YtldhdedlhfafjaaProg
import Derived.Test.YtldhdedlhfafjaaFrc
import Derived.Test.YtldhdedlhfafjaaNc0
import Derived.Test.YtldhdedlhfafjaaNc1
import Derived.Test.YtldhdedlhfafjaaNc2
import Derived.Test.YtldhdedlhfafjaaNc3
import Derived.Test.YtldhdedlhfafjaaNc4
import Derived.Test.YtldhdedlhfafjaaNc5
import Derived.Test.YtldhdedlhfafjaaNc6
import Derived.Test.YtldhdedlhfafjaaNc7
import Derived.Test.YtldhdedlhfafjaaNc8
import Derived.Test.YtldhdedlhfafjaaNc9
import Derived.Test.YtldhdedlhfafjaaNc10
import Derived.Test.YtldhdedlhfafjaaNc11
import Derived.Test.YtldhdedlhfafjaaNc12
import Derived.Test.YtldhdedlhfafjaaNcO
namespace Go.Proofs.Ytldhdedlhfafjaa.F
open Go Go.RowKit Go.Proofs.Fr Go.Proofs.Ytldhdedlhfafjaa.T
set_option linter.unusedVariables false
set_option linter.unusedSimpArgs false
theorem nbr_Step.calls (s k : Int) (wn em : Bool) (w : World) : Calls Go.Proofs.Try.prog 7 #[.int .i64 s, .int .i64 k, .bool wn, .bool em] w fun e w' => e = .returned (.tuple #[.int .i64 (stepF s k wn em).1, .int .i64 (stepF s k wn em).2.1, .int .i64 (stepF s k wn em).2.2]) ∧ Below w.heap.size w w' := by
  unfold stepF
  by_cases c : 0 ≤ s ∧ s < 7 ∧ 0 ≤ k ∧ k < 13
  · rw [if_pos c]
    rcases (show k = 0 ∨ k = 1 ∨ k = 2 ∨ k = 3 ∨ k = 4 ∨ k = 5 ∨ k = 6 ∨ k = 7 ∨ k = 8 ∨ k = 9 ∨ k = 10 ∨ k = 11 ∨ k = 12 by omega) with rfl | rfl | rfl | rfl | rfl | rfl | rfl | rfl | rfl | rfl | rfl | rfl | rfl
    · exact st0 s wn em w ⟨c.1, c.2.1⟩
    · exact st1 s wn em w ⟨c.1, c.2.1⟩
    · exact st2 s wn em w ⟨c.1, c.2.1⟩
    · exact st3 s wn em w ⟨c.1, c.2.1⟩
    · exact st4 s wn em w ⟨c.1, c.2.1⟩
    · exact st5 s wn em w ⟨c.1, c.2.1⟩
    · exact st6 s wn em w ⟨c.1, c.2.1⟩
    · exact st7 s wn em w ⟨c.1, c.2.1⟩
    · exact st8 s wn em w ⟨c.1, c.2.1⟩
    · exact st9 s wn em w ⟨c.1, c.2.1⟩
    · exact st10 s wn em w ⟨c.1, c.2.1⟩
    · exact st11 s wn em w ⟨c.1, c.2.1⟩
    · exact st12 s wn em w ⟨c.1, c.2.1⟩
  · rw [if_neg c]
    exact stOut s k wn em w (by omega)
noncomputable def nbr_Step.f (a : dens [.v (.int .i64), .v (.int .i64), .v .bool, .v .bool]) : Option (dens [.v (.int .i64), .v (.int .i64), .v (.int .i64)]) := some ((stepF a.1 a.2.1 a.2.2.1 a.2.2.2.1).1, (stepF a.1 a.2.1 a.2.2.1 a.2.2.2.1).2.1, (stepF a.1 a.2.1 a.2.2.1 a.2.2.2.1).2.2, ())
noncomputable def nbr_Step.sp : Sp := ⟨[.v (.int .i64), .v (.int .i64), .v .bool, .v .bool], [.v (.int .i64), .v (.int .i64), .v (.int .i64)], nbr_Step.f⟩
theorem nbr_Step.sound : Sound Go.Proofs.Try.prog 7 nbr_Step.sp := ⟨ent_of Go.Proofs.Try.func7 (by kernel_rfl) (by kernel_rfl), by
  intro x y hy w vs ok bs hok hargs hnd hdis
  obtain ⟨x1, x2, x3, x4, _⟩ := x
  obtain ⟨c1, r1, b1, d1, rfl, rfl, ⟨h1, e1⟩, c2, r2, b2, d2, rfl, rfl, ⟨h2, e2⟩, c3, r3, b3, d3, rfl, rfl, ⟨h3, e3⟩, c4, r4, b4, d4, rfl, rfl, ⟨h4, e4⟩, e5, e6⟩ := hargs
  have h1' : c1 = [.int .i64 x1] := h1
  have h2' : c2 = [.int .i64 x2] := h2
  have h3' : c3 = [.bool x3] := h3
  have h4' : c4 = [.bool x4] := h4
  subst h1' h2' h3' h4' e1 e2 e3 e4 e5 e6
  have hy' : some ((stepF x1 x2 x3 x4).1, (stepF x1 x2 x3 x4).2.1, (stepF x1 x2 x3 x4).2.2, ()) = some y := hy
  injection hy' with hy'
  subst hy'
  refine (nbr_Step.calls x1 x2 x3 x4 w).mono ?_
  rintro e w' ⟨rfl, hb⟩
  refine ⟨[.int .i64 (stepF x1 x2 x3 x4).1, .int .i64 (stepF x1 x2 x3 x4).2.1, .int .i64 (stepF x1 x2 x3 x4).2.2], [], ok, rfl, rfl, ⟨[.int .i64 (stepF x1 x2 x3 x4).1], [.int .i64 (stepF x1 x2 x3 x4).2.1, .int .i64 (stepF x1 x2 x3 x4).2.2], [], [], rfl, rfl, ⟨rfl, rfl⟩, ⟨[.int .i64 (stepF x1 x2 x3 x4).2.1], [.int .i64 (stepF x1 x2 x3 x4).2.2], [], [], rfl, rfl, ⟨rfl, rfl⟩, ⟨[.int .i64 (stepF x1 x2 x3 x4).2.2], [], [], [], rfl, rfl, ⟨rfl, rfl⟩, rfl, rfl⟩⟩⟩, List.nodup_nil, by simp, fun k h => ⟨.inl h, Nat.lt_of_lt_of_le (hok k h) hb.size, by simp⟩, ⟨hb.os, hb.tape, hb.output, hb.size, fun k hk _ => hb.block k hk⟩⟩⟩
end Go.Proofs.Ytldhdedlhfafjaa.F
